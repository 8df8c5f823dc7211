import Derived.Test.YtgbaemfepmabgaaGreatDnOps8
/- A call by value: what a callee promises, and what the caller makes of it. -/
namespace Go.Dn
open Go.RowKit
variable {P:Program} {C:Ctx} {st:AS} {a:Act} {w:World} {R:Type} {r:R}
variable {x:AC} {args:Array Operand} {ts:Array TypeId} {Γ:dK} {g:Gh} {hw:Nat->Nat} {hdr:Nat->Value} {f:Operand} {c c':RC} {v:Value} {cs:aw AC} {d:az Nat} {fp:fu} {all:iS}
def gi (A:Rg)(hw:Nat->Nat)(w:World):RC:=⟨hw,λ_=>0,A,λ_=>undef,λ_=>False,0,λ_=>False,w⟩
def pV (A:Rg)(w:World):iS->aw AV->Prop
 |[],[]=>True
 |v::vs,x::xs=>gE (gi A (λ_=>0) w) v x []/\pV A w vs xs
 |_,_=>False
def as7 (P:Program)(f:Nat)(F:bn)(y:F.R)(g:Bool)(cs:aw AC)(rest:aw AV):Prop:=
 ∀(A:Rg)(w:World)(v0:Value)(vs:iS)(hw:Nat->Nat)(fp:fu),(∀k b o,A k b o->b<w.heap.size/\b∉fp)->gE (gi A hw w) v0 (.val g cs) fp->fp.Nodup->(∀b∈fp,b<w.heap.size)->pV A w vs rest->
  Calls P f (v0::vs).toArray w λe w'=>∃v hw' fr fp',e=.returned v/\gE (gi A hw' w') v (F.av y) fr/\gE (gi A hw' w') v0 (.val g (F.back y)) fp'/\fp'.Nodup/\
   (∀b∈fp',b<w'.heap.size/\(b∈fp\/w.heap.size<=b))/\Fr (λb=>b∈fp) w w'
def aoc (P:Program)(f:Nat)(F:bn)(y:F.R)(cs:aw AC)(rest:aw AV):Prop:=
 ∀(A:Rg)(w:World)(b:Nat)(vs:iS)(arr:Array Value)(T:TypeId)(fr:Nat×Nat)(hw:Nat->Nat)(fp:fu),(∀k b' o,A k b' o->b'<w.heap.size/\b'≠b/\b'∉fp)->
  w.heap[b]?=some (.cells arr T fr)->pS arr fr->bR (gi A hw w) arr.toList cs fp->fp.Nodup->b∉fp->(∀b'∈fp,b'<w.heap.size)->hw b=0->pV A w vs rest->
  Calls P f (.pointer (some ⟨b,0,none⟩)::vs).toArray w λe w'=>∃v hw' fv arr' T' fr' fp',e=.returned v/\gE (gi A hw' w') v (F.av y) fv/\w'.heap[b]?=some (.cells arr' T' fr')/\pS arr' fr'/\
   bR (gi A hw' w') arr'.toList (F.back y) fp'/\fp'.Nodup/\b∉fp'/\(∀b'∈fp',b'<w'.heap.size/\(b'∈fp\/w.heap.size<=b'))/\fv.Nodup/\(∀b'∈fv,b'<w'.heap.size/\(b'∈fp\/w.heap.size<=b')/\b'∉fp'/\b'≠b)/\Fr (λb'=>b'=b\/b'∈fp) w w'
def aii (P:Program)(f:Nat)(F:bn)(y:F.R)(xs:aw AV):Prop:=
 ∀(A:Rg)(w:World)(vs:iS),(∀k b o,A k b o->b<w.heap.size)->pV A w vs xs->
  Calls P f vs.toArray w λe w'=>∃b arr T fr hw,e=.returned (.pointer (some ⟨b,0,none⟩))/\w.heap.size<=b/\w'.heap[b]?=some (.cells arr T fr)/\pS arr fr/\bR (gi A hw w') arr.toList (F.back y) []/\Fr (λ_=>False) w w'
def iH (P:Program)(f:Nat)(F:bn):Prop:=
 ∀(xs:aw AV)(y:F.R),F.fn xs=some y->
  (∃fn c,P.funcs[f]?=some fn/\fn.body=some c/\(fn.name== "runtime.NumGoroutine")=false)/\
  (F.io=false->F.bx=false->∀(A:Rg)(w:World)(vs:iS),(∀k b o,A k b o->b<w.heap.size)->pV A w vs xs->
    Calls P f vs.toArray w λe w'=>∃v hw fp,e=.returned v/\gE (gi A hw w') v (F.res y) fp/\fp.Nodup/\(∀b∈fp,w.heap.size<=b/\b<w'.heap.size)/\Fr (λ_=>False) w w')/\
  (F.io=true->∀g cs rest,xs=.val g cs::rest->as7 P f F y g cs rest)/\
  (F.bx=true->∀cs rest,xs=.val true cs::rest->aoc P f F y cs rest)/\
  (F.pr=true->aii P f F y xs)
theorem re (h:hY c v x fp)(hf:x.jE=true):fp=[]/\hY c' v x []:=by cases x with|int k n=>exact⟨h.2,h.1,rfl⟩|bool b=>exact⟨h.2,h.1,rfl⟩|str s=>exact⟨h.2,h.1,rfl⟩|fn f=>exact⟨h.2,h.1,rfl⟩|_=>cases hf
theorem Fu {c c':RC}:∀{vs:iS}{xs:aw AC}{fp:fu},bR c vs xs fp->xs.all AC.jE=true->fp=[]/\bR c' vs xs []
 |[],[],_,h,_=>⟨h,rfl⟩
 |_::_,_::_,_,h,hf=>by obtain⟨f1,f2,rfl,h1,h2⟩:=h;simp only[ch,ae]at hf;obtain⟨rfl,k1⟩:=re (c':=c') h1 hf.1;obtain⟨rfl,k2⟩:=Fu (c':=c') h2 hf.2;exact⟨rfl,[],[],rfl,k1,k2⟩
 |[],_::_,_,h,_=>h.elim
 |_::_,[],_,h,_=>h.elim
theorem Tg {c c':RC}:∀{ws:iS}{ts:aw (Bool×aw AC)}{fp:fu},gE.qw c ws ts fp->(ts.all λx=>x.2.all AC.jE)=true->gE.qw c' ws ts []
 |[],[],_,_,_=>rfl
 |_::_,_::_,_,h,hf=>by obtain⟨f1,f2,rfl,⟨vs,hv,h1⟩,h2⟩:=h;simp only[ch,ae]at hf;exact⟨[],[],rfl,⟨vs,hv,(Fu h1 hf.1).2⟩,Tg h2 hf.2⟩
 |[],_::_,_,h,_=>h.elim
 |_::_,[],_,h,_=>h.elim
theorem LF {x:AV}(h:gE c v x fp)(hf:x.jE=true):gE c' v x []:=by
 cases x with
 |val g cs=>obtain⟨vs,hv,h⟩:=h;exact⟨vs,hv,(Fu h hf).2⟩
 |tup ts=>obtain⟨ws,hv,h⟩:=h;exact⟨ws,hv,Tg h hf⟩
theorem X5 {A:Rg}:∀(os ss:aw AC){r:aw AC}{vs us:iS}{f:fu},nK os ss=some r->bR c vs os []->bR c us ss f->bR (gi A c.hw c.w) vs r f:=by
 intro os;induction os with
 |nil=>intro ss r vs us f h hv hu;cases ss with|cons _ _=>simp[nK]at h|nil=>simp[nK]at h;subst h;cases vs with|cons _ _=>exact hv.elim|nil=>cases us with|cons _ _=>exact hu.elim|nil=>exact hu
 |cons o os ih=>
  intro ss r vs us f h hv hu;cases vs with
  |nil=>exact hv.elim
  |cons v vs=>
   cases ss with
   |nil=>unfold nK at h;split at h<;>first|contradiction|cases h
   |cons s ss=>
    cases us with
    |nil=>exact hu.elim
    |cons u us=>
     obtain⟨g1,g2,hg,hv1,hv2⟩:=hv;have e1:g1=[]:=by have:=hg.symm;simp at this;exact this.1
     have e2:g2=[]:=by have:=hg.symm;simp at this;exact this.2
     subst e1;subst e2;obtain⟨f1,f2,rfl,hu1,hu2⟩:=hu;have fl:∀{x:AC}{r'},x.jE=true->s.jE=true->o=x->nK os ss=some r'->r=x::r'->bR (gi A c.hw c.w) (v::vs) r (f1++f2):=by rintro x r' hx hs rfl hr rfl;obtain⟨rfl,_⟩:=re (c':=c) hu1 hs;exact⟨[],f2,rfl,(re hv1 hx).2,ih ss hr hv2 hu2⟩
     unfold nK at h;split at h;contradiction;rename_i ep rt t e0 xs0 os' t' e xs ss' h1 h2;injection h1 with h1 h1';subst h1;subst h1';injection h2 with h2 h2';subst h2;subst h2';cases ht:(t'==t)with
     |false=>rw[ht]at h;cases h
     |true=>
      have:t'=t:=by simpa using ht
      subst this;rw[ht]at h;simp only[ah]at h;obtain⟨r',hr,h⟩:=aU.1 h;cases h;have hv':=(hv1.2.2.2.2 rt t' rfl).2;have hu':=(hu1.2 t' rfl).2;have huv:u=v:=hu'.trans hv'.symm;subst huv;exact⟨f1,f2,rfl,⟨hu1.1,by simp⟩,ih _ hr hv2 hu2⟩
     rename_i k n os' k' n' ss' h1 h2;injection h1 with h1 h1';subst h1';injection h2 with h2 h2';subst h2;subst h2';obtain⟨r',hr,h⟩:=aU.1 h;cases h;exact fl (x:=.int k n) rfl rfl h1 hr rfl;rename_i k os' k' ss' h1 h2;injection h1 with h1 h1';subst h1';injection h2 with h2 h2';subst h2;subst h2';obtain⟨r',hr,h⟩:=aU.1 h;cases h;exact fl (x:=.bool k) rfl rfl h1 hr rfl;rename_i k os' k' ss' h1 h2;injection h1 with h1 h1';subst h1';injection h2 with h2 h2';subst h2;subst h2';obtain⟨r',hr,h⟩:=aU.1 h;cases h;exact fl (x:=.str k) rfl rfl h1 hr rfl;cases h
theorem Wb (h:hY c v x fp):hY (gi (λ_ b o=>c.S b o/\b<c.w.heap.size) (λ_=>0) c.w) v (x.asArg c.ep) []:=by
 have hS:∀{e:CT}{xs:aw e.D},jr c.w c.S (.sl e) [v] xs->jr c.w (λb o=>c.S b o/\b<c.w.heap.size) (.sl e) [v] xs:=λhr=>
  jr.mono (λb o u hs hu=>⟨⟨hs,World.block_lt_of_cell? c.w _ hu⟩,hu⟩) hr
 cases x with|int k n=>exact⟨h.1,rfl⟩|bool b=>exact⟨h.1,rfl⟩|str s=>exact⟨h.1,rfl⟩|nilsl=>exact⟨h.1,rfl⟩|fn f=>exact⟨h.1,rfl⟩|ptr s off=>exact rfl|un=>exact rfl|bot=>exact rfl|elt fl e y i off=>exact rfl|sl fl e xs=>cases fl with|nest _ _ _ _ _ _=>exact rfl|part _ _ _ _=>exact rfl|holed _ _ _=>exact rfl|own t=>exact⟨rfl,hS (fM.rep (λb o ho=> .inr ho) h.1)⟩|arg k=>exact⟨rfl,hS (jr.mono (λb o u hs hu=>⟨.inl ⟨k,hs⟩,hu⟩) h.2)⟩|loc ep pv=>simp only[AC.asArg];split;rename_i he;exact⟨rfl,hS (h.2.2.2.1 (by simpa using he))⟩;exact rfl
theorem IW {c:RC}:∀{vs:iS}{xs:aw AC}{fp:fu},bR c vs xs fp->bR (gi (λ_ b o=>c.S b o/\b<c.w.heap.size) (λ_=>0) c.w) vs (xs.map (AC.asArg c.ep)) []
 |[],[],_,_=>rfl
 |_::_,_::_,_,h=>by obtain⟨f1,f2,rfl,h1,h2⟩:=h;exact⟨[],[],rfl,Wb h1,IW h2⟩
 |[],_::_,_,h=>h.elim
 |_::_,[],_,h=>h.elim
theorem aam {x:AV}(h:gE c v x fp):gE (gi (λ_ b o=>c.S b o/\b<c.w.heap.size) (λ_=>0) c.w) v (x.asArg c.ep) []:=by
 cases x with
 |val g cs=>obtain⟨vs,hv,h⟩:=h;exact⟨vs,hv,IW h⟩
 |tup ts=>exact gE.bot _ _
theorem So {g:Gh}(h:ez C g st a w []):∀(args:aw Operand),
 pV (λ_ b o=>(dc C g st w).S b o/\b<w.heap.size) w (args.map a.eval) (args.map λx=>((st.rd x).fresh st).asArg st.ep)
 |[]=>trivial
 |x::xs=>⟨aam (c:=dc C g st w) (h.fresh (h.rd x)),So h xs⟩
theorem Wc {A':Rg}{tag:az Nat}(h:hY (gi A' hw c.w) v x fp)(hA:∀k b o,A' k b o->c.S b o)(hhw:∀b∈fp,c.hw b=hw b)(ht:∀t,tag=some t->c.iss t/\v=c.hdr t):hY c v (x.CP c.ep tag) fp:=by
 cases x with
 |int k n=>exact h
 |bool b=>exact h
 |str s=>exact h
 |nilsl=>exact h
 |fn f=>exact h
 |ptr s off=>exact h.2.2
 |un=>exact h
 |bot=>exact h
 |elt fl e y i off=>cases fl with|own t=>exact h.elim|nest _ _ _ _ _ _=>exact h.elim|part _ _ _ _=>exact h.elim|holed _ _ _=>exact h.elim|arg _=>exact h.1|loc ep pv=>exact h.1
 |sl fl e xs=>
  cases fl with
  |nest _ _ _ _ _ _=>exact h.1
  |part _ _ _ _=>exact h.1
  |holed _ _ _=>obtain⟨_,⟨k,hk,h3⟩,_⟩:=h;exact⟨λq hq=>(by cases hq),⟨k,hk,h3.mono (λb hb=>⟨rfl,hhw b hb⟩)⟩,by simp⟩
  |own t=>exact⟨fM.mono h.1 (λb hb=>⟨rfl,hhw b hb⟩),ht⟩
  |loc ep pv=>exact h.1
  |arg _=>have hr:jr c.w c.S (.sl e) [v] xs:=jr.mono (λb o u hs hu=>⟨hA _ b o hs,hu⟩) h.2;refine⟨h.1,bh _,?_,λ_=>hr,by simp⟩;obtain⟨u,hu,k⟩:=hr;simp at hu;subst hu;rcases k with⟨⟨ad,rfl⟩,rfl⟩|⟨b,o,cap,rfl,_⟩;exact⟨_,_,_,rfl,rfl⟩;exact⟨_,_,_,rfl,rfl⟩
theorem Ax {c:RC}{A':Rg}{hw:Nat->Nat}{mk:Nat->az Nat}(hA:∀k b o,A' k b o->c.S b o):∀{vs:iS}{xs:aw AC}{fp:fu}(j:Nat),bR (gi A' hw c.w) vs xs fp->(∀b∈fp,c.hw b=hw b)->
 (∀i v,vs[i]?=some v->∀t,mk (j+i)=some t->c.iss t/\v=c.hdr t)->bR c vs (Hf c.ep mk j xs) fp
 |[],[],_,_,h,_,_=>h
 |v::_,_::_,_,j,h,hh,hm=>by obtain⟨f1,f2,rfl,h1,h2⟩:=h;exact⟨f1,f2,rfl,Wc h1 hA (λb hb=>hh b (bI _ hb)) (λt ht=>hm 0 v rfl t ht),Ax hA (j+1) h2 (λb hb=>hh b (bw _ hb)) (λi u hu t ht=>hm (i+1) u (by simpa using hu) t (by rwa[show j+(i+1)=j+1+i by omega]))⟩
 |[],_::_,_,_,h,_,_=>h.elim
 |_::_,[],_,_,h,_,_=>h.elim
inductive Leaves (A:Rg) (hw:Nat->Nat) (w:World):List Value->List (Bool×List AC)->List Nat->List Value->Prop
 |nil:Leaves A hw w [] [] [] []
 |cons {v:Value} {vs:List Value} {g:Bool} {cs:List AC} {ts:List (Bool×List AC)} {f1 f2:List Nat} {us all:List Value} (hcut:Cut g v us) (hr:bR (gi A hw w) us cs f1) (h:Leaves A hw w vs ts f2 all):
  Leaves A hw w (v::vs) ((g,cs)::ts) (f1++f2) (us++all)
theorem Ib {A:Rg}{hw:Nat->Nat}{w:World}:∀{ws:iS}{ts:aw (Bool×aw AC)}{fp:fu},gE.qw (gi A hw w) ws ts fp->∃all,Leaves A hw w ws ts fp all
 |[],[],_,h=>by cases h;exact⟨[],.nil⟩
 |_::_,(g,cs)::_,_,h=>by obtain⟨f1,f2,rfl,⟨us,hcut,hr⟩,h2⟩:=h;obtain⟨all,hall⟩:=Ib h2;exact⟨us++all,.cons hcut hr hall⟩
 |[],_::_,_,h=>h.elim
 |_::_,[],_,h=>h.elim
theorem Mf {A':Rg}{mk:Nat->az Nat}(hA:∀k b o,A' k b o->c.S b o){ws:iS}{ts:aw (Bool×aw AC)}(h:Leaves A' hw c.w ws ts fp all): ∀j,(∀b∈fp,c.hw b=hw b)->(∀i v,all[i]?=some v->∀t,mk (j+i)=some t->c.iss t/\v=c.hdr t)->gE.qw c ws (X1 c.ep mk j ts) fp:=by induction h with|nil=>intro j _ _;exact rfl| @cons v vs g cs ts f1 f2 us all hcut hr h ih=>intro j hh hm;have hl:=hr.length;refine⟨f1,f2,rfl,⟨us,hcut,Ax hA j hr (λb hb=>hh b (bI _ hb)) (λi u hu t ht=>?_)⟩,ih _ (λb hb=>hh b (bw _ hb)) (λi u hu t ht=>?_)⟩;exact hm i u (by rw[bD (aC.1 hu).1];exact hu) t ht;have hl':us.length=cs.length:=hl;refine hm (us.length+i) u (by rw[bA (by omega)];simpa using hu) t ?_;rw[<-fW,hl'];exact ht
def qD (hdr:Nat->Value)(mk:Nat->az Nat)(all:iS):Nat->Value:=λu=>if mk (u/3%4096)=some u then(all[u/3%4096]?).getD undef else hdr u
theorem zM {t:Nat}(h:mM st t):qD hdr (st.ix d) all t=hdr t:=by unfold qD;rw[aD];intro e;exact(pK e).1 h
theorem zL {i t:Nat}(hv:all[i]?=some v)(h:st.ix d i=some t):v=qD hdr (st.ix d) all t:=by
 obtain⟨_,_,d',rfl,ht,hi⟩:=pK h;have hidx:t/3%4096=i:=by rw[ht,Hr];omega
 unfold qD;rw[hidx,aE h,hv];rfl
theorem Yf {vs us:iS}{seg:aw AC}{f1 f2 f3:fu}{off n:Nat}(hus:us=(vs.drop off).take n)(hln:us.length=n)(r1:bR c' (vs.take off) (cs.take off) f1)(r2:bR c' us seg f2)(r3:bR c' (vs.drop (off+n)) (cs.drop (off+n)) f3): bR c' vs (eQ cs off seg) (f1++f2++f3):=by
 have hl2:=r2.length;have e:vs=vs.take off++us++vs.drop (off+n):=by rw[hus,aZ,<-fg,cD,cD]
 rw[e,eQ,show seg.length=n by omega];exact bR.append (bR.append r1 r2) r3
theorem NR:∀(os ss:aw AC){r:aw AC},nK os ss=some r->ss.length=os.length:=by
 intro os
 induction os with
 |nil=>intro ss r h;cases ss with
  |nil=>rfl
  |cons _ _=>simp[nK]at h
 |cons o os ih=>
  intro ss r h
  cases ss with
  |nil=>unfold nK at h;split at h<;>first|contradiction|cases h
  |cons s ss=>
   unfold nK at h
   split at h
   ·contradiction
   ·rename_i h1 h2
    injection h1 with h1 h1';subst h1'
    injection h2 with h2 h2';subst h2'
    rw[Bool.cond_eq_ite]at h
    split at h
    ·obtain⟨r',hr,h⟩:=aU.1 h
     simp[ih _ hr]
    ·cases h
   all_goals first
    |cases h
    |(rename_i h1 h2
      injection h1 with h1 h1';subst h1'
      injection h2 with h2 h2';subst h2'
      obtain⟨r',hr,h⟩:=aU.1 h
      simp[ih _ hr])
theorem Fm {c:RC}{A':Rg}{hw:Nat->Nat}{mk:Nat->az Nat}{k:Bool}(hA:A' true=c.A k):∀{vs:iS}{xs:aw AC}{fp:fu}(j:Nat),bR (gi A' hw c.w) vs xs fp->xs.all (AC.yk true)=true->
 (∀b∈fp,c.hw b=hw b)->(∀i v,vs[i]?=some v->∀t,mk (j+i)=some t->c.iss t/\v=c.hdr t)->bR c vs (pF k mk j xs) fp
 |[],[],_,_,h,_,_,_=>h
 |v::_,x::_,_,j,h,hok,hh,hm=>by
  obtain⟨f1,f2,rfl,h1,h2⟩:=h;simp only[ch,ae]at hok;refine⟨f1,f2,rfl,?_,Fm hA (j+1) h2 hok.2 (λb hb=>hh b (bw _ hb)) (λi u hu t ht=>hm (i+1) u (by simpa using hu) t (by rwa[show j+(i+1)=j+1+i by omega]))⟩;have hhw:∀b∈f1,c.hw b=hw b:=λb hb=>hh b (bI _ hb);have ht:∀t,mk j=some t->c.iss t/\v=c.hdr t:=λt ht=>hm 0 v rfl t ht;have hok:=hok.1;cases x with
  |sl fl e xs=>
   cases fl with
   |own t=>exact⟨fM.mono h1.1 (λb hb=>⟨rfl,hhw b hb⟩),ht⟩
   |arg k'=>
    have hk:k'=true:=by simpa[AC.yk]using hok
    subst hk;exact⟨h1.1,by rw[<-hA];exact h1.2⟩
   |loc _ _=>cases hok
   |nest _ _ _ _ _ _=>cases hok
   |part _ _ _ _=>cases hok
   |holed _ _ _=>cases hok
  |int _ _=>exact h1
  |bool _=>exact h1
  |str _=>exact h1
  |fn _=>exact h1
  |nilsl=>cases hok
  |ptr _ _=>cases hok
  |elt _ _ _ _ _=>cases hok
  |un=>cases hok
  |bot=>cases hok
 |[],_::_,_,_,h,_,_,_=>h.elim
 |_::_,[],_,_,h,_,_,_=>h.elim
theorem Hu {A':Rg}{hw:Nat->Nat}{w:World}{k:Bool}:∀{cs:aw AC},cs.all (AC.yk k)=true->∀{c:RC}{vs:iS}{fp:fu},bR c vs cs fp->c.w=w->c.hw=hw->A' true=c.A k->bR (gi A' hw w) vs (cs.map AC.R6) fp
 |[],_,c,vs,fp,h,_,_,_=>by cases vs with|nil=>exact h|cons _ _=>exact h.elim
 |x::cs,hok,c,vs,fp,h,hcw,hchw,hA=>by
  cases vs with
  |nil=>exact h.elim
  |cons v vs=>
   obtain⟨f1,f2,rfl,h1,h2⟩:=h;simp only[ch,ae]at hok;refine⟨f1,f2,rfl,?_,Hu hok.2 h2 hcw hchw hA⟩;have hok:=hok.1;cases x with
   |sl fl e xs=>
    cases fl with
    |own t=>exact⟨by have:=h1.1;rw[hcw,hchw]at this;exact this,by simp⟩
    |arg k'=>
     have hk:k'=k:=by simpa[AC.yk]using hok
     subst hk;exact⟨h1.1,by have:=h1.2;rw[hcw,<-hA]at this;exact this⟩
    |loc _ _=>cases hok
    |nest _ _ _ _ _ _=>cases hok
    |part _ _ _ _=>cases hok
    |holed _ _ _=>cases hok
   |int _ _=>exact h1
   |bool _=>exact h1
   |str _=>exact h1
   |fn _=>exact h1
   |nilsl=>cases hok
   |ptr _ _=>cases hok
   |elt _ _ _ _ _=>cases hok
   |un=>cases hok
   |bot=>cases hok
theorem OT {g:Gh}(h:ez C g st a w [])(s:Nat){A':Rg}(hA:∀b o,(dc C g st w).S b o/\b<w.heap.size/\g.lab b≠some (.box s)->A' false b o):∀(xs:aw Operand),xs.all (BI st)=true->
 pV A' w (xs.map a.eval) (xs.map (AP st))
 |[],_=>trivial
 |x::xs,hx=>by
  simp only[ch,ae]at hx;refine⟨?_,OT h s hA xs hx.2⟩;have hx:=hx.1;cases x with
  |const _=>exact LF (h.rd _) hx
  |func _=>exact LF (h.rd _) hx
  |global _=>exact LF (h.rd _) hx
  |tmp t=>
   have hown:∀(t0:Nat){e:CT}{v:Value}{xs:aw e.D}{fp:fu},fM g.hw w (.sl e) [v] xs fp->(∀b∈fp,g.lab b=some (.slot t0))->jr w (A' false) (.sl e) [v] xs:=by
    intro t0 e v xs fp h1 hl;have h3:fM (λb=>if b∈fp then g.hw b else 0) w (.sl e) [v] xs fp:=fM.mono h1 (λb hb=>⟨rfl,by simp[hb]⟩)
    exact fM.rep (λb o ho=>by
     by_cases hb:b∈fp;have ho:o<g.hw b:=by simpa[hb]using ho
     have hlb:=hl b hb;exact hA b o ⟨.inr ho,(h.labs b _ hlb).1,by rw[hlb];simp⟩;simp[hb]at ho) h3
   obtain⟨fp,hr,hn,hl⟩:=h.slot t;simp only[BI]at hx;show gE _ (a.tmps.getD t undef) (AP st (.tmp t)) _;simp only[AP];cases hv:st.get t with
   |tup _=>rw[hv]at hx;cases hx
   |val gg cs=>
    rw[hv]at hx hr;simp only at hx;obtain⟨vs,hcut,hr⟩:=hr
    have key:∀(cs:aw AC)(vs:iS)(fp:fu),(cs.map st.NH).all AC.HL=true->(∀b∈fp,g.lab b=some (.slot t))->bR (dc C g st w) vs cs fp->
     bR (gi A' (λ_=>0) w) vs (cs.map st.NH) []:=by
     intro cs
     induction cs with
     |nil=>intro vs fp _ _ h;cases vs with
      |nil=>rfl
      |cons _ _=>exact h.elim
     |cons c cs ih=>
      intro vs fp hc hl hr
      cases vs with
      |nil=>exact hr.elim
      |cons v vs=>
       obtain⟨f1,f2,rfl,h1,h2⟩:=hr
       simp only[di,ch,ae]at hc
       refine⟨[],[],rfl,?_,ih vs f2 hc.2 (λb hb=>hl b (bw _ hb)) h2⟩
       have hc:=hc.1
       cases c with
       |sl fl e xs=>
        cases fl with
        |own tag=>exact⟨rfl,hown t h1.1 (λb hb=>hl b (bI _ hb))⟩
        |arg k=>exact⟨rfl,jr.mono (λb o u hs hu=>⟨hA b o ⟨.inl ⟨k,hs⟩,World.block_lt_of_cell? w _ hu,λhb=>h.Me hb k o hs⟩,hu⟩) h1.2⟩
        |loc ep pv=>
         cases pv with
         |none=>cases hc
         |some q=>
          obtain⟨r,tg⟩:=q
          cases r with
          |box _ _=>cases hc
          |io _=>cases hc
          |slot b j=>
           have hv2:=(h1.2.2.2.2 (.slot b j) tg rfl).2
           simp only[AS.NH]at hc⊢
           cases hrg:st.fD (.slot b j)with
           |none=>rw[hrg]at hc;cases hc
           |some c0=>
            rw[hrg]at hc
            split at hc
            ·rename_i t' e' ys hc0
             split at hc
             ·rename_i ht
              subst ht
              cases hc0
              rw[aE rfl]
              obtain⟨fp2,hr2,_,hl2⟩:=h.slot b
              simp only[AS.fD]at hrg
              cases hgb:st.get b with
              |tup _=>rw[hgb]at hrg;cases hrg
              |val g2 cs2=>
               rw[hgb]at hrg hr2
               simp only at hrg
               obtain⟨vs2,_,hr2⟩:=hr2
               rw[ei]at hrg
               obtain⟨v2,f3,_,hrel2,hsub⟩:=hr2.get j _ hrg
               have hveq:v=v2:=by have:=(hrel2.2 t' rfl).2;rw[hv2,this]
               rw[hveq]
               exact⟨rfl,hown b hrel2.1 (λb' hb'=>hl2 b' (hsub b' hb'))⟩
             ·cases hc
            ·cases hc
        |nest _ _ _ _ _ _=>cases hc
        |part _ _ _ _=>cases hc
        |holed _ _ _=>cases hc
       |int _ _=>exact⟨h1.1,rfl⟩
       |bool _=>exact⟨h1.1,rfl⟩
       |str _=>exact⟨h1.1,rfl⟩
       |fn _=>exact⟨h1.1,rfl⟩
       |nilsl=>cases hc
       |ptr _ _=>cases hc
       |elt _ _ _ _ _=>cases hc
       |un=>cases hc
       |bot=>cases hc
    exact⟨vs,hcut,key cs vs fp hx hl hr⟩
theorem ez.agF (h:ez C g st a w [])(s:Nat)(hbx:st.boxes[s]?=some (some cs)): ∃arr T fr fp,w.heap[g.β s]?=some (.cells arr T fr)/\pS arr fr/\bR (dc C g st w) arr.toList cs fp/\fp.Nodup/\g.β s∉fp/\(∀b∈fp,b<w.heap.size)/\g.hw (g.β s)=0/\(∀b,b=g.β s\/b∈fp->g.lab b=some (.box s))/\ ∀(w':World)(hw':Nat->Nat)(arr':Array Value)(T':TypeId)(fr':Nat×Nat)(cs':aw AC)(fp' fv:fu)(A':Rg)(k:Bool),Fr (λb=>b=g.β s\/b∈fp) w w'->w'.heap[g.β s]?=some (.cells arr' T' fr')->pS arr' fr'-> A' true=C.A k->bR (gi A' hw' w') arr'.toList cs' fp'->cs'.all (AC.yk true)=true->fp'.Nodup->g.β s∉fp'->(∀b∈fp',b<w'.heap.size/\(b∈fp\/w.heap.size<=b))-> (∀b∈fv,b<w'.heap.size/\(b∈fp\/w.heap.size<=b)/\b∉fp'/\b≠g.β s)-> ∃g',ez C g' (YA st s (pF k (st.ix (some s)) 0 cs')) a w' []/\(∀b∈fv,g'.lab b=some (.hand 0)/\g'.hw b=hw' b)/\∀b,b<w.heap.size->g.lab b≠some (.box s)->g'.hw b=g.hw b:=by
 obtain⟨arr,T,fr,fp,hblk,hth,hr,hn,hnb,hl,hl0,hw0⟩:=h.boxes s cs hbx;have hslt:s<st.boxes.length:=(aC.1 hbx).1;have hlab0:∀b,b=g.β s\/b∈fp->g.lab b=some (.box s):=by rintro b (rfl|hb);exact hl0;exact hl b hb
 refine⟨arr,T,fr,fp,hblk,hth,hr,hn,hnb,λb hb=>(h.labs b _ (hl b hb)).1,hw0,hlab0,?_⟩;intro w' hw' arr' T' fr' cs' fp' fv A' k hfr hblk' hth' hA' hrel' hok' hn' hnb' hfp' hfv;let bx':aw AC:=pF k (st.ix (some s)) 0 cs';let st':AS:=YA st s bx';let hw2:Nat->Nat:=λb=>if b∈fp'\/b∈fv then hw' b else if b=g.β s then 0 else g.hw b
 let lab2:Nat->az jX:=λb=>if b=g.β s\/b∈fp' then some (.box s) else if b∈fv then some (.hand 0) else g.lab b
 let g':Gh:=⟨hw2,g.β,lab2,qD g.hdr (st.ix (some s)) arr'.toList⟩
 have hboxes:st'.boxes=st.boxes.set s (some bx'):=by show((st.eZ s (some bx')).fR (some s)).boxes=_;rw[Az,kl]
 have hslots:st'.slots=st.slots:=by show((st.eZ s (some bx')).fR (some s)).slots=_;rw[uC];rfl
 have hio:st'.io=st.io:=by show((st.eZ s (some bx')).fR (some s)).io=_;rw[GX];rfl
 have hiss:∀t,mM st t->mM st' t:=λt ht=>by have h1:mM (st.eZ s (some bx')) t:=ht;exact Ck (d:=some s) h1
 have hpr:∀t,jq st t->jq st' t:=by rintro t ⟨c0,hc0⟩;by_cases hts:s=t;subst hts;exact⟨bx',by rw[hboxes];simp[hslt]⟩;exact⟨c0,by rw[hboxes,aP hts];exact hc0⟩
 have hnew:∀b,b<w.heap.size->g.lab b≠some (.box s)->b∉fp'/\b∉fv/\b≠g.β s:=by intro b hb hlb;refine⟨λhm=>?_,λhm=>?_,λhm=>hlb (hlab0 b (.inl hm))⟩;rcases(hfp' b hm).2 with h2|h2;exact hlb (hlab0 b (.inr h2));omega;rcases(hfv b hm).2.1 with h2|h2;exact hlb (hlab0 b (.inr h2));omega
 have hkeep:∀b x,x≠ .box s->g.lab b=some x->lab2 b=some x/\w'.heap[b]?=w.heap[b]?/\hw2 b=g.hw b:=by intro b x hx hb;have hbs:=(h.labs b x hb).1;have hnm:¬(b=g.β s\/b∈fp):=λhm=>hx (by have:=hlab0 b hm;rw[hb]at this;simpa using this);obtain⟨n1,n2,n3⟩:=hnew b hbs (by rw[hb];simpa using hx);refine⟨?_,hfr.block b hbs hnm,?_⟩;show(if b=g.β s\/b∈fp' then _ else if b∈fv then _ else _)=_;rw[aD (by rintro(h1|h1);exact n3 h1;exact n1 h1),aD n2];exact hb;show(if b∈fp'\/b∈fv then _ else if b=g.β s then _ else _)=_;rw[aD (by rintro(h1|h1);exact n1 h1;exact n2 h1),aD n3]
 have hcA:∀k b o u,C.A k b o->w.cell? ⟨b,o,none⟩=some u->w'.cell? ⟨b,o,none⟩=some u:=by intro k b o u hA hu;have hb:b<w.heap.size:=World.block_lt_of_cell? w _ hu;rw[World.cell?_of_block (a:=⟨b,o,none⟩) (hfr.block b hb (λhm=>h.Me (hlab0 b hm) k o hA))];exact hu
 have hle:(dc C g st w).Le (dc C g' st' w'):=⟨rfl,λt ht=>⟨hiss t ht,zM ht⟩,hcA,Nat.le_succ _,λt ht=>⟨hpr t ht,rfl⟩,λhe=>absurd he (Nat.succ_ne_self _)⟩
 refine⟨g',h.step (λx=>x≠ .box s) hle h.defers ?_ ?_ ?_ ?_ (λb x hk hb=>hkeep b x hk hb) ?_ ?_ (λk u bv hk=>by simp at hk) (.inl ⟨by simp,hio⟩),λb hb=>?_,λb hb hlb=>?_⟩;rw[hslots];exact h.size;rw[hslots,hboxes,aB];exact h.bsize;refine h.frame.trans hfr (λb hb hm=>?_);rcases(h.labs b _ (hlab0 b hm)).2 with h2|h2;omega;exact h2;intro b x hx;have hx':(if b=g.β s\/b∈fp' then some (jX.box s) else if b∈fv then some (.hand 0) else g.lab b)=some x:=hx;have hz:=hfr.size;have hold:b∈fp\/w.heap.size<=b->C.w0.heap.size<=b\/C.M b:=by rintro(h2|h2);exact(h.labs b _ (hl b h2)).2;exact .inl (bt h.frame.size h2)
 split at hx';rename_i hm;rcases hm with rfl|hm;have:=h.labs _ _ hl0;exact⟨by omega,this.2⟩;exact⟨(hfp' b hm).1,hold (hfp' b hm).2⟩;split at hx';rename_i hm;exact⟨(hfv b hm).1,hold (hfv b hm).2.1⟩;have:=h.labs b x hx';exact⟨by omega,this.2⟩;intro i av hi;rw[hslots]at hi;exact .inl ⟨by simp,hi,rfl⟩;intro t cs2 hb;rw[hboxes]at hb;by_cases hts:t=s;subst hts;rw[bH]at hb;simp only[cg,hslt]at hb;simp at hb;subst hb;refine .inr ⟨arr',T',fr',fp',hblk',hth',?_,hn',hnb',λb hb=>?_,?_,?_⟩
 have:=Fm (c:=dc C g' st' w') (A':=A') (hw:=hw') (mk:=st.ix (some t)) (k:=k) hA' 0 (vs:=arr'.toList) (xs:=cs') (fp:=fp') hrel' hok'
  (λb hb=>by show(if b∈fp'\/b∈fv then _ else _)=_;rw[aE (.inl hb)])
  (λi u hu q hq=>by
   rw[cw]at hq;have hm:=pK hq;have hm2:mM st' q:=by have h1:st.ix (some t) i=some q:=hq;have h2:(st.eZ t (some bx')).ix (some t) i=some q:=h1;exact(pK h2).2.1
   exact⟨hm2,zL hu hq⟩)
 exact this;show(if b=g.β t\/b∈fp' then _ else _)=_;rw[aE (.inr hb)];show(if g.β t=g.β t\/g.β t∈fp' then _ else _)=_;rw[aE (.inl rfl)];show(if g.β t∈fp'\/g.β t∈fv then _ else if g.β t=g.β t then _ else _)=_;rw[aD (by rintro(h1|h1);exact hnb' h1;exact(hfv _ h1).2.2.2 rfl),aE rfl];rw[aP (cR hts)]at hb;exact .inl ⟨by simpa using hts,hb,rfl⟩;obtain⟨_,_,h3,h4⟩:=hfv b hb;refine⟨?_,?_⟩;show(if b=g.β s\/b∈fp' then _ else if b∈fv then _ else _)=_;rw[aD (by rintro(h1|h1);exact h4 h1;exact h3 h1),aE hb];show(if b∈fp'\/b∈fv then _ else _)=_;rw[aE (.inr hb)];obtain⟨n1,n2,n3⟩:=hnew b hb hlb;show(if b∈fp'\/b∈fv then _ else if b=g.β s then _ else _)=_;rw[aD (by rintro(h1|h1);exact n1 h1;exact n2 h1),aD n3]
theorem PR {c:RC}:∀{vs:iS}{cs:aw AC}{fp:fu},bR c vs cs fp->cs.all AC.Gc=true->fp=[]
 |[],[],_,h,_=>h
 |[],_::_,_,h,_=>h.elim
 |_::_,[],_,h,_=>h.elim
 |v::vs,x::cs,fp,h,hx=>by
  obtain⟨f1,f2,rfl,h1,h2⟩:=h;simp only[ch,ae]at hx;rw[PR h2 hx.2,bK];have hx:=hx.1;cases x with
  |sl fl e xs=>cases fl<;>first|exact h1.1|cases hx
  |int k n=>exact h1.2
  |bool b=>exact h1.2
  |str s=>exact h1.2
  |fn f=>exact h1.2
  |nilsl=>cases hx
  |ptr _ _=>cases hx
  |elt _ _ _ _ _=>cases hx
  |un=>cases hx
  |bot=>cases hx
theorem ez.ac7 (h:ez C g st a w [])(s:Nat)(hbx:st.boxes[s]?=some (some cs))(hcs:cs.all AC.Gc=true): ∀(w':World)(hw':Nat->Nat)(arr':Array Value)(T':TypeId)(fr':Nat×Nat)(cs':aw AC)(fp' fv:fu)(A':Rg)(k:Bool),Fr (λb=>b=g.β s) w w'->w'.heap[g.β s]?=some (.cells arr' T' fr')->pS arr' fr'-> A' true=C.A k->bR (gi A' hw' w') arr'.toList cs' fp'->cs'.all (AC.yk true)=true->fp'.Nodup->g.β s∉fp'->(∀b∈fp',b<w'.heap.size/\w.heap.size<=b)-> (∀b∈fv,b<w'.heap.size/\w.heap.size<=b/\b∉fp'/\b≠g.β s)-> ∃g',ez C g' (st.eZ s (some (pF k (λ_=>none) 0 cs'))) a w' []/\(∀b∈fv,g'.lab b=some (.hand 0)/\g'.hw b=hw' b)/\∀b,b<w.heap.size->g.lab b≠some (.box s)->g'.hw b=g.hw b:=by
 obtain⟨arr,T,fr,fp,hblk,hth,hr,hn,hnb,hl,hl0,hw0⟩:=h.boxes s cs hbx;have hfp0:fp=[]:=PR hr hcs;subst hfp0;have hslt:s<st.boxes.length:=(aC.1 hbx).1;intro w' hw' arr' T' fr' cs' fp' fv A' k hfr hblk' hth' hA' hrel' hok' hn' hnb' hfp' hfv;let bx':aw AC:=pF k (λ_=>none) 0 cs';let st':AS:=st.eZ s (some bx');let hw2:Nat->Nat:=λb=>if b∈fp'\/b∈fv then hw' b else if b=g.β s then 0 else g.hw b
 let lab2:Nat->az jX:=λb=>if b=g.β s\/b∈fp' then some (.box s) else if b∈fv then some (.hand 0) else g.lab b
 let g':Gh:=⟨hw2,g.β,lab2,g.hdr⟩
 have hboxes:st'.boxes=st.boxes.set s (some bx'):=by show(st.eZ s (some bx')).boxes=_;rw[kl]
 have hpr:∀t,jq st t->jq st' t:=by rintro t ⟨c0,hc0⟩;by_cases hts:s=t;subst hts;exact⟨bx',by rw[hboxes];simp[hslt]⟩;exact⟨c0,by rw[hboxes,aP hts];exact hc0⟩
 have hold:∀b,b<w.heap.size->b∉fp'/\b∉fv:=by intro b hb;refine⟨λhm=>?_,λhm=>?_⟩;have:=(hfp' b hm).2;omega;have:=(hfv b hm).2.1;omega
 have hhw:∀b,b<w.heap.size->b≠g.β s->hw2 b=g.hw b:=by intro b hb hne;show(if b∈fp'\/b∈fv then _ else if b=g.β s then _ else _)=_;rw[aD (by rintro(h1|h1);exact(hold b hb).1 h1;exact(hold b hb).2 h1),aD hne]
 have hkeep:∀b x,x≠ .box s->g.lab b=some x->lab2 b=some x/\w'.heap[b]?=w.heap[b]?/\hw2 b=g.hw b:=by intro b x hx hb;have hbs:=(h.labs b x hb).1;have hne:b≠g.β s:=λhm=>hx (by rw[hm,hl0]at hb;simpa using hb.symm);refine⟨?_,hfr.block b hbs hne,hhw b hbs hne⟩;show(if b=g.β s\/b∈fp' then _ else if b∈fv then _ else _)=_;rw[aD (by rintro(h1|h1);exact hne h1;exact(hold b hbs).1 h1),aD (hold b hbs).2];exact hb
 have hcA:∀k b o u,C.A k b o->w.cell? ⟨b,o,none⟩=some u->w'.cell? ⟨b,o,none⟩=some u:=by intro k b o u hA hu;have hb:b<w.heap.size:=World.block_lt_of_cell? w _ hu;rw[World.cell?_of_block (a:=⟨b,o,none⟩) (hfr.block b hb (λhm=>h.Me (by rw[hm];exact hl0) k o hA))];exact hu
 have hle:(dc C g st w).Le (dc C g' st' w'):=by
  refine⟨rfl,λt ht=>⟨ht,rfl⟩,hcA,bh _,λt ht=>⟨hpr t ht,rfl⟩,λ_ b o u ho hu=>?_⟩;have hb:b<w.heap.size:=World.block_lt_of_cell? w _ hu;have ho':o<g.hw b:=ho;have hne:b≠g.β s:=λe=>by rw[e,hw0]at ho';omega
  refine⟨by show o<hw2 b;rw[hhw b hb hne];exact ho',?_⟩;show w'.cell? ⟨b,o,none⟩=some u;rw[World.cell?_of_block (a:=⟨b,o,none⟩) (hfr.block b hb hne)];exact hu
 refine⟨g',h.step (λx=>x≠ .box s) hle h.defers h.size ?_ ?_ ?_ (λb x hk hb=>hkeep b x hk hb) ?_ ?_ (λk u bv hk=>by simp at hk) (.inl ⟨by simp,rfl⟩),λb hb=>?_,λb hb hlb=>?_⟩;rw[hboxes,aB];exact h.bsize;refine h.frame.trans hfr (λb hb hm=>?_);have hm:b=g.β s:=hm;subst hm;rcases(h.labs _ _ hl0).2 with h2|h2;omega;exact h2;intro b x hx;have hx':(if b=g.β s\/b∈fp' then some (jX.box s) else if b∈fv then some (.hand 0) else g.lab b)=some x:=hx;have hz:=hfr.size;split at hx';rename_i hm;rcases hm with rfl|hm;have:=h.labs _ _ hl0;exact⟨by omega,this.2⟩;exact⟨(hfp' b hm).1,.inl (bt h.frame.size (hfp' b hm).2)⟩;split at hx';rename_i hm;exact⟨(hfv b hm).1,.inl (bt h.frame.size (hfv b hm).2.1)⟩;have:=h.labs b x hx';exact⟨by omega,this.2⟩;intro i av hi;exact .inl ⟨by simp,hi,rfl⟩;intro t cs2 hb;rw[hboxes]at hb;by_cases hts:t=s;subst hts;rw[bH]at hb;simp only[cg,hslt]at hb;simp at hb;subst hb;refine .inr ⟨arr',T',fr',fp',hblk',hth',?_,hn',hnb',λb hb=>?_,?_,?_⟩;have:=Fm (c:=dc C g' st' w') (A':=A') (hw:=hw') (mk:=λ_=>none) (k:=k) hA' 0 (vs:=arr'.toList) (xs:=cs') (fp:=fp') hrel' hok' (λb hb=>by show(if b∈fp'\/b∈fv then _ else _)=_;rw[aE (.inl hb)]) (λi u hu q hq=>by cases hq);exact this;show(if b=g.β t\/b∈fp' then _ else _)=_;rw[aE (.inr hb)];show(if g.β t=g.β t\/g.β t∈fp' then _ else _)=_;rw[aE (.inl rfl)];show(if g.β t∈fp'\/g.β t∈fv then _ else if g.β t=g.β t then _ else _)=_;rw[aD (by rintro(h1|h1);exact hnb' h1;exact(hfv _ h1).2.2.2 rfl),aE rfl];rw[aP (cR hts)]at hb;exact .inl ⟨by simpa using hts,hb,rfl⟩;obtain⟨_,_,h3,h4⟩:=hfv b hb;refine⟨?_,?_⟩;show(if b=g.β s\/b∈fp' then _ else if b∈fv then _ else _)=_;rw[aD (by rintro(h1|h1);exact h4 h1;exact h3 h1),aE hb];show(if b∈fp'\/b∈fv then _ else _)=_;rw[aE (.inr hb)];exact hhw b hb (λe=>hlb (by rw[e];exact hl0))
theorem ajq (hΓ:∀f,iH P f (Γ f)){o':Oper}(ho:o'.op=.call {callee:=.value f,args,argTypes:=ts})(hg:ez C g st a w []){k:Nat}(hf:st.rd f=.val false [.fn k])(hbx:(Γ k).bx=true){K:AS->az R}(hk:uJ Γ o' k args.toList st K=some r)(next:Act->World->Prop)(Q:Exit->Act->World->Prop)(hnext:∀st' a' w',oa C st' a' w'->K st'=some r->next a' w'):o'.wp P a w next Q:=by
 have hfv:=hg.rd f;rw[hf]at hfv;have hfv:=(eU hfv).1;unfold uJ at hk;split at hk
 ·rename_i x0 xs hargs;split at hk
  ·rename_i s hx0;split at hk
   ·rename_i cs hb0;have hb:st.boxes[s]?=some (some cs):=by rw[ei]at hb0;cases hq:st.boxes[s]? with|none=>rw[hq]at hb0;simp at hb0|some q=>rw[hq]at hb0;simp at hb0;rw[hb0]
    cases hc:(cs.all (AC.yk (CO cs))&&xs.all (BI st))with
    |false=>rw[hc]at hk;cases hk
    |true=>
     rw[hc]at hk;simp only[ah]at hk;simp only[ae]at hc;cases hres:(Γ k).fn (.val true (cs.map AC.R6)::xs.map (AP st))with
     |none=>rw[hres]at hk;cases hk
     |some y=>
      rw[hres]at hk;simp only[aa]at hk;cases hc2:(((Γ k).back y).all (AC.yk true)&&((Γ k).av y).abF)with
      |false=>rw[hc2]at hk;cases hk
      |true=>
       rw[hc2]at hk;simp only[ah]at hk;simp only[ae]at hc2;obtain⟨⟨fn,c,hfn,hbody,hname⟩,_,_,hcalls,_⟩:=hΓ k _ y hres;have hcalls:=hcalls hbx _ _ rfl;have hrd:=hg.rd x0;rw[hx0]at hrd;have hpv:=AU hrd;obtain⟨arr,T,fr,fp,hblk,hth,hrel,hn,hnb,hlt,hw0,hlab,hfin⟩:=hg.agF s hb;let A':Rg:=λq b o=>bif q then C.A (CO cs) b o else((dc C g st w).S b o/\b<w.heap.size/\g.lab b≠some (.box s))
       have hA':∀q b' o,A' q b' o->b'<w.heap.size/\b'≠g.β s/\b'∉fp:=by
        intro q b' o hq;have key:b'<w.heap.size/\g.lab b'≠some (.box s):=by cases q with|true=>have hq:C.A (CO cs) b' o:=hq;exact⟨Nat.lt_of_lt_of_le (C.hA _ _ _ hq).1 hg.frame.size,λhb=>hg.Me hb _ o hq⟩|false=>exact hq.2
        exact⟨key.1,λe=>key.2 (hlab b' (.inl e)),λe=>key.2 (hlab b' (.inr e))⟩
       have hcall:=hcalls A' w (g.β s) (xs.map a.eval) arr T fr g.hw fp hA' hblk hth (Hu (k:=CO cs) hc.1 hrel rfl rfl rfl) hn hnb hlt hw0 (OT hg s (λb o h=>h) xs hc.2);have hpv':a.eval x0=.pointer (some ⟨g.β s,0,none⟩):=hpv;have hargs':(Value.pointer (some ⟨g.β s,0,none⟩)::xs.map a.eval).toArray=args.map a.eval:=by apply fG;simp[hargs,hpv']
       rw[hargs']at hcall;have hrun:(execOp a.eval o').run P w=.ok (.enter k (args.map a.eval)) w:=by simp[execOp,ho,resolve,hfv,Deferred.ofValue,invoke,callFunc,hfn,hbody];simpa using hname
       unfold Oper.wp;rw[hrun,Oper.upon_enter];refine hcall.mono ?_;rintro e w' ⟨v,hw',fv,arr',T',fr',fp',rfl,hrv,hblk',hth',hrel',hn',hnb',hfp',hnv,hfv',hfr⟩;show next (a.put o'.dst v) w'
       have tail:∀(st1:AS)(g':Gh),ez C g' st1 a w' []->(∀b∈fv,g'.lab b=some (.hand 0)/\g'.hw b=hw' b)->(∀b,b<w.heap.size->g.lab b≠some (.box s)->g'.hw b=g.hw b)->
        K ((st1.fR o'.dst).put o'.dst (((Γ k).av y).CP st1.ep (st1.ix o'.dst)))=some r->next (a.put o'.dst v) w':=by
        intro st1 g' hg' hlv hold hk
        have hAS:∀(hd:Nat->Value)(q:Bool)(b o:Nat),A' q b o->(dc C {g' with hdr:=hd} (st1.fR o'.dst) w').S b o:=by intro hd q b o hq;cases q with|true=>exact .inl ⟨_,hq⟩|false=>rcases hq.1 with hs|hs;exact .inl hs;exact .inr (by show o<g'.hw b;rw[hold b hq.2.1 hq.2.2];exact hs)
        have hfpw:∀b∈fv,g'.hw b=hw' b:=λb hb=>(hlv b hb).2
        have hrel':∃hd,(∀t,mM st1 t->hd t=g'.hdr t)/\gE (dc C {g' with hdr:=hd} (st1.fR o'.dst) w') v (((Γ k).av y).CP st1.ep (st1.ix o'.dst)) fv:=by
         generalize (Γ k).av y=y at hrv;cases y with
         |val gg cs=>obtain⟨vs,hcut,hr⟩:=hrv;refine⟨qD g'.hdr (st1.ix o'.dst) vs,λt ht=>zM ht,vs,hcut,?_⟩;have:=Ax (c:=dc C {g' with hdr:=qD g'.hdr (st1.ix o'.dst) vs} (st1.fR o'.dst) w') (mk:=st1.ix o'.dst) (hAS _) 0 hr hfpw (λi u hu t ht=>by rw[cw]at ht;exact⟨(pK ht).2.1,zL hu ht⟩);have hep:(dc C {g' with hdr:=qD g'.hdr (st1.ix o'.dst) vs} (st1.fR o'.dst) w').ep=st1.ep:=zG;rw[hep]at this;exact this
         |tup ts=>obtain⟨ws,hv,hr⟩:=hrv;obtain⟨all,hall⟩:=Ib hr;refine⟨qD g'.hdr (st1.ix o'.dst) all,λt ht=>zM ht,ws,hv,?_⟩;have:=Mf (c:=dc C {g' with hdr:=qD g'.hdr (st1.ix o'.dst) all} (st1.fR o'.dst) w') (mk:=st1.ix o'.dst) (hAS _) hall 0 hfpw (λi u hu t ht=>by rw[cw]at ht;exact⟨(pK ht).2.1,zL hu ht⟩);have hep:(dc C {g' with hdr:=qD g'.hdr (st1.ix o'.dst) all} (st1.fR o'.dst) w').ep=st1.ep:=zG;rw[hep]at this;exact this
        obtain⟨hd,hhd,hrel'⟩:=hrel'
        obtain⟨g2,hg2⟩:=hg'.MD o'.dst (hw':=g'.hw) (hdr':=hd) (fp:=fv) (st1:=st1.fR o'.dst) GX uC Az zG (λt ht=>⟨Ck ht,hhd t ht⟩)
         (Fr.refl _ _) (λ_ _ _ _=>rfl) (λ_ _ _ ho hu=>⟨ho,hu⟩) hrel' hnv (λb hb=>⟨(hfv' b hb).1,.inl (by rw[(hlv b hb).1];rfl)⟩)
        exact hnext _ _ _ ⟨g2,hg2⟩ hk
       cases hcur:((Γ k).cur&&cs.all AC.Gc)with
       |false=>rw[hcur]at hk;obtain⟨g',hg',hlv,hold⟩:=hfin w' hw' arr' T' fr' ((Γ k).back y) fp' fv A' (CO cs) hfr hblk' hth' rfl hrel' hc2.1 hn' hnb' hfp' hfv';exact tail _ g' hg' hlv hold hk
       |true=>rw[hcur]at hk;simp only[ae]at hcur;have hfp0:fp=[]:=PR hrel hcur.2;subst hfp0;obtain⟨g',hg',hlv,hold⟩:=hg.ac7 s hb hcur.2 w' hw' arr' T' fr' ((Γ k).back y) fp' fv A' (CO cs) ⟨hfr.os,hfr.tape,hfr.output,hfr.size,λb hb hm=>hfr.block b hb (λhh=>hm (hh.resolve_right (by simp)))⟩ hblk' hth' rfl hrel' hc2.1 hn' hnb' (λb hb=>⟨(hfp' b hb).1,(hfp' b hb).2.resolve_left (by simp)⟩) (λb hb=>⟨(hfv' b hb).1,(hfv' b hb).2.1.resolve_left (by simp),(hfv' b hb).2.2⟩);exact tail _ g' hg' hlv hold hk
   cases hk
  cases hk
 cases hk
theorem arg_val (hA:c'.A=c.A)(hw:c'.w=c.w){x:AV}(h:gE c v x fp)(hx:x.HL=true):fp=[]/\gE c' v x []:=by
 cases x with
 |tup _=>cases hx
 |val g cs=>
  obtain⟨vs,hcut,h⟩:=h
  have key:∀(cs:aw AC)(vs:iS)(fp:fu),bR c vs cs fp->cs.all AC.HL=true->fp=[]/\bR c' vs cs []:=by
   intro cs
   induction cs with
   |nil=>intro vs fp h _;cases vs with
    |nil=>exact⟨h,rfl⟩
    |cons _ _=>exact h.elim
   |cons x cs ih=>
    intro vs fp h hx
    cases vs with
    |nil=>exact h.elim
    |cons v vs=>
     obtain⟨f1,f2,rfl,h1,h2⟩:=h
     simp only[ch,ae]at hx
     obtain⟨rfl,k2⟩:=ih vs f2 h2 hx.2
     have hx:=hx.1
     have one:f1=[]/\hY c' v x []:=by
      cases x with
      |sl fl e xs=>cases fl with|arg k=>exact⟨h1.1,rfl,by rw[hA,hw];exact h1.2⟩|own _=>cases hx|loc _ _=>cases hx|nest _ _ _ _ _ _=>cases hx|part _ _ _ _=>cases hx|holed _ _ _=>cases hx
      |int _ _=>exact re h1 rfl
      |bool _=>exact re h1 rfl
      |str _=>exact re h1 rfl
      |fn _=>exact re h1 rfl
      |nilsl=>cases hx
      |ptr _ _=>cases hx
      |elt _ _ _ _ _=>cases hx
      |un=>cases hx
      |bot=>cases hx
     obtain⟨rfl,k1⟩:=one
     exact⟨rfl,[],[],rfl,k1,k2⟩
  obtain⟨e,k⟩:=key cs vs fp h hx;exact⟨e,vs,hcut,k⟩
theorem Sn {g:Gh}(h:ez C g st a w []):∀(xs:aw Operand),xs.all (λx=>(st.rd x).HL)=true->pV C.A w (xs.map a.eval) (xs.map st.rd)
 |[],_=>trivial
 |x::xs,hf=>by simp only[ch,ae]at hf;exact⟨(arg_val (c:=dc C g st w) (c':=gi C.A (λ_=>0) w) rfl rfl (h.rd x) hf.1).2,Sn h xs hf.2⟩
theorem amD (hΓ:∀f,iH P f (Γ f)){o':Oper}(ho:o'.op=.call {callee:=.value f,args,argTypes:=ts})(hg:ez C g st a w []){k:Nat}(hf:st.rd f=.val false [.fn k])(hpr:(Γ k).pr=true){K:AS->az R}(hk:abG Γ o' k args.toList st K=some r)(next:Act->World->Prop)(Q:Exit->Act->World->Prop)(hnext:∀st' a' w',oa C st' a' w'->K st'=some r->next a' w'):o'.wp P a w next Q:=by
 have hfv:=hg.rd f;rw[hf]at hfv;have hfv:=(eU hfv).1;unfold abG at hk;split at hk
 ·rename_i d hd;split at hk
  ·rename_i hno;cases hc:args.toList.all (λx=>(st.rd x).HL)with
   |false=>rw[hc]at hk;cases hk
   |true=>
    rw[hc]at hk;simp only[ah]at hk;cases hres:(Γ k).fn (args.toList.map st.rd)with
    |none=>rw[hres]at hk;cases hk
    |some y=>
     rw[hres]at hk;simp only[aa]at hk;cases hc2:((Γ k).back y).all AC.HL with
     |false=>rw[hc2]at hk;cases hk
     |true=>
      rw[hc2]at hk;simp only[ah]at hk;obtain⟨⟨fn,c,hfn,hbody,hname⟩,_,_,_,hcalls⟩:=hΓ k _ y hres;have hcall:=hcalls hpr C.A w (args.toList.map a.eval) (λq b o hq=>Nat.lt_of_lt_of_le (C.hA q b o hq).1 hg.frame.size) (Sn hg _ hc);have hargs:(args.toList.map a.eval).toArray=args.map a.eval:=by apply fG;simp
      rw[hargs]at hcall;have hrun:(execOp a.eval o').run P w=.ok (.enter k (args.map a.eval)) w:=by simp[execOp,ho,resolve,hfv,Deferred.ofValue,invoke,callFunc,hfn,hbody];simpa using hname
      unfold Oper.wp;rw[hrun,Oper.upon_enter];refine hcall.mono ?_;rintro e w' ⟨b,arr,T,fr,hw,rfl,hb,hblk,hth,hrel,hfr⟩;show next (a.put o'.dst (.pointer (some ⟨b,0,none⟩))) w'
      rw[ei]at hno;have hbs:=mq hblk;have hne:∀b' x,g.lab b'=some x->b'≠b:=λb' x hx e=>by have:=(hg.labs b' x hx).1;omega
      have hr1:bR ⟨λb'=>if b'=b then 0 else g.hw b',λt=>if t=d then b else g.β t,C.A,g.hdr,mM st,st.ep,jq st,w'⟩ arr.toList ((Γ k).back y) []:=by
       have hv:gE (gi C.A hw w') (.agg arr.toList.toArray) (.val true ((Γ k).back y)) []:=⟨arr.toList,rfl,hrel⟩
       obtain⟨_,vs,hcut,h⟩:=arg_val (c:=gi C.A hw w') (c':=⟨λb'=>if b'=b then 0 else g.hw b',λt=>if t=d then b else g.β t,C.A,g.hdr,mM st,st.ep,jq st,w'⟩) rfl rfl hv hc2;have:arr.toList=vs:=by have hcut:Value.agg arr.toList.toArray=.agg vs.toArray:=hcut;simp only[Value.agg.injEq]at hcut;simpa using congrArg Array.toList hcut
       rw[this];exact h
      obtain⟨g',hβ,h'⟩:=hg.Wf d (cs:=(Γ k).back y) (arr:=arr) (T:=T) (fr:=fr) (fp:=[]) (w':=w') (bnew:=b) (hw':=λb'=>if b'=b then 0 else g.hw b') (.inr ⟨hb,hno⟩) ⟨hfr.os,hfr.tape,hfr.output,hfr.size,λb' hb' _=>hfr.block b' hb' (λm=>m)⟩ hblk hth hbs (by simp) (λb' x hx _ hn=>by simp[hn]) (λb' o u ho hu=>by have hb':b'<w.heap.size:=World.block_lt_of_cell? w _ hu;exact⟨by simp[show b'≠b by omega];exact ho,ze hfr hu⟩) hr1 List.nodup_nil (by simp) (λb' hb'=>by cases hb');have hdl:d<st.boxes.length:=(aC.1 hno).1;have hq:=h'.quiet (some d) (v:=.pointer (some ⟨b,0,none⟩)) (av:=.one (.ptr d 0)) (mF ⟨by simp[dc,hβ],⟨(Γ k).back y,by rw[kl];simp[hdl]⟩,rfl⟩);rw[hd];exact hnext _ _ _ ⟨g',hq⟩ hk
  cases hk
 cases hk
theorem agI (hΓ:∀f,iH P f (Γ f)){o':Oper}(ho:o'.op=.call {callee:=.value f,args,argTypes:=ts})(h:oa C st a w){K:AS->az R}(hk:CR Γ o' f args.toList st K=some r)(next:Act->World->Prop)(Q:Exit->Act->World->Prop)(hnext:∀st' a' w',oa C st' a' w'->K st'=some r->next a' w'):o'.wp P a w next Q:=by
 obtain⟨g,hg⟩:=h;unfold CR at hk;split at hk
 ·rename_i k hf
  have hfv:=hg.rd f
  rw[hf]at hfv
  have hfv:=(eU hfv).1
  cases hbx:(Γ k).bx with
  |true=>rw[hbx]at hk;exact ajq hΓ ho hg hf hbx hk next Q hnext
  |false=>
  rw[hbx]at hk
  simp only[af]at hk
  cases hpr:(Γ k).pr with
  |true=>rw[hpr]at hk;exact amD hΓ ho hg hf hpr hk next Q hnext
  |false=>
  rw[hpr]at hk
  simp only[af]at hk
  cases hio:(Γ k).io with
  |true=>rw[hio]at hk;cases hk
  |false=>
  rw[hio]at hk
  simp only[af]at hk
  cases hres:(Γ k).fn (args.toList.map λx=>((st.rd x).fresh st).asArg st.ep)with
  |none=>rw[hres]at hk;cases hk
  |some y0=>
   rw[hres]at hk
   simp only[aa]at hk
   obtain⟨⟨fn,c,hfn,hbody,hname⟩,hcalls,_⟩:=hΓ k _ y0 hres
   have hcalls:=hcalls hio hbx
   have hk:K ((st.fR o'.dst).put o'.dst (((Γ k).res y0).CP st.ep (st.ix o'.dst)))=some r:=by unfold bn.res;cases hsel:(Γ k).sel y0 with|true=>rw[hsel]at hk;exact hk|false=>rw[hsel]at hk;exact hk
   generalize hy0:(Γ k).res y0=y at hk hcalls
   have hcall:=hcalls (λ_ b o=>(dc C g st w).S b o/\b<w.heap.size) w (args.toList.map a.eval) (λ_ _ _ h=>h.2) (So hg args.toList)
   have hargs:(args.toList.map a.eval).toArray=args.map a.eval:=by apply fG;simp
   rw[hargs]at hcall
   have hrun:(execOp a.eval o').run P w=.ok (.enter k (args.map a.eval)) w:=by simp[execOp,ho,resolve,hfv,Deferred.ofValue,invoke,callFunc,hfn,hbody];simpa using hname
   unfold Oper.wp
   rw[hrun,Oper.upon_enter]
   refine hcall.mono ?_
   rintro e w' ⟨v,hw,fp,rfl,hrel,hnd,hfp,hfr⟩
   show next (a.put o'.dst v) w'
   let hw':Nat->Nat:=λb=>if b∈fp then hw b else g.hw b
   have hnin:∀b,b<w.heap.size->b∉fp:=λb hb hm=>by have:=(hfp b hm).1;omega
   have hA':∀(hd:Nat->Value)(_:Bool)(b o:Nat),((dc C g st w).S b o/\b<w.heap.size)->(dc C {g with hw:=hw',hdr:=hd} (st.fR o'.dst) w').S b o:=by rintro hd _ b o ⟨hs,hb⟩;rcases hs with hs|hs;exact .inl hs;exact .inr (by simp only[dc,hw',aD (hnin b hb)];exact hs)
   have hrel':∃hd,(∀t,mM st t->hd t=g.hdr t)/\gE (dc C {g with hw:=hw',hdr:=hd} (st.fR o'.dst) w') v (y.CP st.ep (st.ix o'.dst)) fp:=by
    have hfpw:∀b∈fp,hw' b=hw b:=λb hb=>by simp[hw',hb]
    cases y with
    |val gg cs=>obtain⟨vs,hcut,hr⟩:=hrel;refine⟨qD g.hdr (st.ix o'.dst) vs,λt ht=>zM ht,vs,hcut,?_⟩;have:=Ax (c:=dc C {g with hw:=hw',hdr:=qD g.hdr (st.ix o'.dst) vs} (st.fR o'.dst) w') (mk:=st.ix o'.dst) (hA' _) 0 hr hfpw (λi u hu t ht=>by rw[cw]at ht;exact⟨(pK ht).2.1,zL hu ht⟩);have hep:(dc C {g with hw:=hw',hdr:=qD g.hdr (st.ix o'.dst) vs} (st.fR o'.dst) w').ep=st.ep:=zG;rw[hep]at this;exact this
    |tup ts=>obtain⟨ws,hv,hr⟩:=hrel;obtain⟨all,hall⟩:=Ib hr;refine⟨qD g.hdr (st.ix o'.dst) all,λt ht=>zM ht,ws,hv,?_⟩;have:=Mf (c:=dc C {g with hw:=hw',hdr:=qD g.hdr (st.ix o'.dst) all} (st.fR o'.dst) w') (mk:=st.ix o'.dst) (hA' _) hall 0 hfpw (λi u hu t ht=>by rw[cw]at ht;exact⟨(pK ht).2.1,zL hu ht⟩);have hep:(dc C {g with hw:=hw',hdr:=qD g.hdr (st.ix o'.dst) all} (st.fR o'.dst) w').ep=st.ep:=zG;rw[hep]at this;exact this
   obtain⟨hd,hhd,hrel'⟩:=hrel'
   obtain⟨g',hg'⟩:=hg.MD o'.dst (hw':=hw') (hdr':=hd) (fp:=fp) (st1:=st.fR o'.dst) GX uC Az zG (λt ht=>⟨Ck ht,hhd t ht⟩)
    ⟨hfr.os,hfr.tape,hfr.output,hfr.size,λb hb _=>hfr.block b hb (λm=>m)⟩ (λb x hx _=>by simp[hw',hnin b (hg.labs b x hx).1])
    (λb o u ho hu=>by have hb:b<w.heap.size:=World.block_lt_of_cell? w _ hu;exact⟨by simp[hw',hnin b hb];exact ho,ze hfr hu⟩) hrel' hnd (λb hb=>⟨(hfp b hb).2,.inr (hfp b hb).1⟩)
   exact hnext _ _ _ ⟨g',hg'⟩ hk
 cases hk
end Go.Dn
