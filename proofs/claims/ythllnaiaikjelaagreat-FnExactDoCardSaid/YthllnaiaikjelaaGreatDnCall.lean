import Derived.Test.YthllnaiaikjelaaGreatDnOps8
/- A call by value: what a callee promises, and what the caller makes of it. -/
namespace Go.Dn
open Go.RowKit
variable {P:Program} {C:Ctx} {st:AS} {a:Act} {w:World} {R:Type} {r:R}
variable {x:AC} {args:Array Operand} {ts:Array TypeId} {Γ:Ci} {g:Gh} {k:Nat} {hw hw':Nat->Nat} {hdr:Nat->Value} {f:Operand} {c c':RC} {A:Rg} {cs:ar AC} {d:au Nat} {fp:ec}
def fy (A:Rg)(hw:Nat->Nat)(w:World):RC:=⟨hw,λ_=>0,A,λ_=>undef,λ_=>False,0,λ_=>False,w⟩
def oZ (A:Rg)(w:World):iU->ar AV->Prop
 |[],[]=>True
 |v::vs,x::xs=>gi (fy A (λ_=>0) w) v x []/\oZ A w vs xs
 |_,_=>False
def azf (P:Program)(f:Nat)(F:Ez)(y:F.R)(g:Bool)(cs:ar AC)(rest:ar AV):Prop:=
 ∀(A:Rg)(w:World)(v0:Value)(vs:iU)(hw:Nat->Nat)(fp:ec),(∀k b o,A k b o->b<w.heap.size/\b∉fp)->gi (fy A hw w) v0 (.val g cs) fp->fp.Nodup->(∀b∈fp,b<w.heap.size)->oZ A w vs rest->
  Calls P f (v0::vs).toArray w λe w'=>∃v hw' fr jg,e=.returned v/\gi (fy A hw' w') v (F.av y) fr/\gi (fy A hw' w') v0 (.val g (F.back y)) jg/\jg.Nodup/\
   (∀b∈jg,b<w'.heap.size/\(b∈fp\/w.heap.size<=b))/\Fr (λb=>b∈fp) w w'
def aqR (P:Program)(f:Nat)(F:Ez)(y:F.R)(cs:ar AC)(rest:ar AV):Prop:=
 ∀(A:Rg)(w:World)(b:Nat)(vs:iU)(arr:Array Value)(T:TypeId)(fr:Nat×Nat)(hw:Nat->Nat)(fp:ec),(∀k b' o,A k b' o->b'<w.heap.size/\b'≠b/\b'∉fp)->
  w.heap[b]?=some (.cells arr T fr)->tk arr fr->bD (fy A hw w) arr.toList cs fp->fp.Nodup->b∉fp->(∀b'∈fp,b'<w.heap.size)->hw b=0->oZ A w vs rest->
  Calls P f (.pointer (some ⟨b,0,none⟩)::vs).toArray w λe w'=>∃v hw' fv jS T' XX jg,e=.returned v/\gi (fy A hw' w') v (F.av y) fv/\w'.heap[b]?=some (.cells jS T' XX)/\tk jS XX/\
   bD (fy A hw' w') jS.toList (F.back y) jg/\jg.Nodup/\b∉jg/\(∀b'∈jg,b'<w'.heap.size/\(b'∈fp\/w.heap.size<=b'))/\fv.Nodup/\(∀b'∈fv,b'<w'.heap.size/\(b'∈fp\/w.heap.size<=b')/\b'∉jg/\b'≠b)/\Fr (λb'=>b'=b\/b'∈fp) w w'
def apj (P:Program)(f:Nat)(F:Ez)(y:F.R)(xs:ar AV):Prop:=
 ∀(A:Rg)(w:World)(vs:iU),(∀k b o,A k b o->b<w.heap.size)->oZ A w vs xs->
  Calls P f vs.toArray w λe w'=>∃b arr T fr hw,e=.returned (.pointer (some ⟨b,0,none⟩))/\w.heap.size<=b/\w'.heap[b]?=some (.cells arr T fr)/\tk arr fr/\bD (fy A hw w') arr.toList (F.back y) []/\Fr (λ_=>False) w w'
def mz (P:Program)(f:Nat)(F:Ez):Prop:=
 ∀(xs:ar AV)(y:F.R),F.fn xs=some y->
  (∃fn c,P.funcs[f]?=some fn/\fn.body=some c/\(fn.name== "runtime.NumGoroutine")=false)/\
  (F.io=false->F.bx=false->∀(A:Rg)(w:World)(vs:iU),(∀k b o,A k b o->b<w.heap.size)->oZ A w vs xs->
    Calls P f vs.toArray w λe w'=>∃v hw fp,e=.returned v/\gi (fy A hw w') v (F.res y) fp/\fp.Nodup/\(∀b∈fp,w.heap.size<=b/\b<w'.heap.size)/\Fr (λ_=>False) w w')/\
  (F.io=true->∀g cs rest,xs=.val g cs::rest->azf P f F y g cs rest)/\
  (F.bx=true->∀cs rest,xs=.val true cs::rest->aqR P f F y cs rest)/\
  (F.pr=true->apj P f F y xs)
theorem nv {v:Value}(h:iA c v x fp)(hf:x.gZ=true):fp=[]/\iA c' v x []:=by cases x with|int k n=>exact⟨h.2,h.1,rfl⟩|bool b=>exact⟨h.2,h.1,rfl⟩|str s=>exact⟨h.2,h.1,rfl⟩|fn f=>exact⟨h.2,h.1,rfl⟩|_=>cases hf
theorem OE {c':RC}:∀{vs:iU}{xs:ar AC}{fp:ec},bD c vs xs fp->xs.all AC.gZ=true->fp=[]/\bD c' vs xs []
 |[],[],_,h,_=>⟨h,rfl⟩
 |_::_,_::_,_,h,hf=>by obtain⟨f1,f2,rfl,h1,h2⟩:=h;simp only[bV,ah]at hf;obtain⟨rfl,k1⟩:=nv (c':=c') h1 hf.1;obtain⟨rfl,k2⟩:=OE (c':=c') h2 hf.2;exact⟨rfl,[],[],rfl,k1,k2⟩
 |[],_::_,_,h,_=>h.elim
 |_::_,[],_,h,_=>h.elim
theorem abO:∀{ws:iU}{ts:ar (Bool×ar AC)}{fp:ec},gi.uw c ws ts fp->(ts.all λx=>x.2.all AC.gZ)=true->gi.uw c' ws ts []
 |[],[],_,_,_=>rfl
 |_::_,_::_,_,h,hf=>by obtain⟨f1,f2,rfl,⟨vs,hv,h1⟩,h2⟩:=h;simp only[bV,ah]at hf;exact⟨[],[],rfl,⟨vs,hv,(OE h1 hf.1).2⟩,abO h2 hf.2⟩
 |[],_::_,_,h,_=>h.elim
 |_::_,[],_,h,_=>h.elim
theorem IP {v:Value}{x:AV}(h:gi c v x fp)(hf:x.gZ=true):gi c' v x []:=by
 cases x with
 |val g cs=>obtain⟨vs,hv,h⟩:=h;exact⟨vs,hv,(OE h hf).2⟩
 |zU ts=>obtain⟨ws,hv,h⟩:=h;exact⟨ws,hv,abO h hf⟩
theorem VW:∀(os ss:ar AC){r:ar AC}{vs us:iU}{f:ec},oP os ss=some r->bD c vs os []->bD c us ss f->bD (fy A c.hw c.w) vs r f:=by
 intro os;induction os with
 |nil=>intro ss r vs us f h hv hu;cases ss with|cons _ _=>simp[oP]at h|nil=>simp[oP]at h;subst h;cases vs with|cons _ _=>exact hv.elim|nil=>cases us with|cons _ _=>exact hu.elim|nil=>exact hu
 |cons o os ih=>
  intro ss r vs us f h hv hu;cases vs with
  |nil=>exact hv.elim
  |cons v vs=>
   cases ss with
   |nil=>unfold oP at h;split at h<;>first|contradiction|cases h
   |cons s ss=>
    cases us with
    |nil=>exact hu.elim
    |cons u us=>
     obtain⟨g1,g2,hg,hv1,SA⟩:=hv;have e1:g1=[]:=by have:=hg.symm;simp at this;exact this.1
     have e2:g2=[]:=by have:=hg.symm;simp at this;exact this.2
     subst e1;subst e2;obtain⟨f1,f2,rfl,hu1,hu2⟩:=hu;have fl:∀{x:AC}{r'},x.gZ=true->s.gZ=true->o=x->oP os ss=some r'->r=x::r'->bD (fy A c.hw c.w) (v::vs) r (f1++f2):=by rintro x r' hx hs rfl hr rfl;obtain⟨rfl,_⟩:=nv (c':=c) hu1 hs;exact⟨[],f2,rfl,(nv hv1 hx).2,ih ss hr SA hu2⟩
     unfold oP at h;split at h;contradiction;rename_i ep rt t e0 xs0 os' t' e xs ss' h1 h2;injection h1 with h1 UZ;subst h1;subst UZ;injection h2 with h2 h2';subst h2;subst h2';cases ht:(t'==t)with
     |false=>rw[ht]at h;cases h
     |true=>
      have:t'=t:=by simpa using ht
      subst this;rw[ht]at h;simp only[af]at h;obtain⟨r',hr,h⟩:=aX.1 h;cases h;have Z1:=(hv1.2.2.2.2 rt t' rfl).2;have X4:=(hu1.2 t' rfl).2;have huv:u=v:=X4.trans Z1.symm;subst huv;exact⟨f1,f2,rfl,⟨hu1.1,by simp⟩,ih _ hr SA hu2⟩
     rename_i k n os' k' n' ss' h1 h2;injection h1 with h1 UZ;subst UZ;injection h2 with h2 h2';subst h2;subst h2';obtain⟨r',hr,h⟩:=aX.1 h;cases h;exact fl (x:=.int k n) rfl rfl h1 hr rfl;rename_i k os' k' ss' h1 h2;injection h1 with h1 UZ;subst UZ;injection h2 with h2 h2';subst h2;subst h2';obtain⟨r',hr,h⟩:=aX.1 h;cases h;exact fl (x:=.bool k) rfl rfl h1 hr rfl;rename_i k os' k' ss' h1 h2;injection h1 with h1 UZ;subst UZ;injection h2 with h2 h2';subst h2;subst h2';obtain⟨r',hr,h⟩:=aX.1 h;cases h;exact fl (x:=.str k) rfl rfl h1 hr rfl;cases h
theorem ado (hle:c.Le c'):∀(os ss bs:ar AC){seg:ar AC}{vs us:iU}{f f':ec},H5 os ss bs=some seg->bD c vs os []->bD c us ss f-> bD (fy A hw' c'.w) vs bs f'->(∀b∈f',c'.hw b=hw' b)->bD c' us seg f':=by
 intro os;induction os with
 |nil=>
  intro ss bs seg vs us f f' h hv hu hb _;unfold H5 at h;split at h;cases h;cases us with|cons _ _=>exact hu.elim|nil=>cases vs with|cons _ _=>exact hv.elim|nil=>exact hb
  all_goals first|contradiction|cases h
 |cons o os ih=>
  intro ss bs seg vs us f f' h hv hu hb hh;unfold H5 at h;split at h;contradiction;rename_i ep rt t' e0 xs0 os' t e1 xs1 ss' tg e ys bs' h1;injection h1 with h1 UZ;subst h1;subst UZ;cases ht:(t==t')with
  |false=>rw[ht]at h;cases h
  |true=>
   have:t=t':=by simpa using ht
   subst this;rw[ht]at h;simp only[af]at h;obtain⟨r',hr,h⟩:=aX.1 h;cases h;cases vs with
   |nil=>exact hv.elim
   |cons v vs=>
    cases us with
    |nil=>exact hu.elim
    |cons u us=>
     obtain⟨g1,g2,hg,hv1,SA⟩:=hv;have e1:g1=[]:=by have:=hg.symm;simp at this;exact this.1
     have e2:g2=[]:=by have:=hg.symm;simp at this;exact this.2
     subst e1;subst e2;obtain⟨f1,f2,rfl,hu1,hu2⟩:=hu;obtain⟨f1',f2',rfl,hb1,Lo⟩:=hb;have Z1:=(hv1.2.2.2.2 rt t rfl).2;have X4:=hu1.2 t rfl;have huv:u=v:=X4.2.trans Z1.symm;refine⟨f1',f2',rfl,⟨?_,λq hq=>?_⟩,ih _ _ hr SA hu2 Lo (λb hb=>hh b (bh _ hb))⟩;rw[huv];exact eS.mono hb1.1 (λb hb=>⟨rfl,hh b (br _ hb)⟩);cases hq;exact⟨(hle.hdr t X4.1).1,by rw[(hle.hdr t X4.1).2];exact X4.2⟩
  all_goals first
   |cases h
   |(rename_i h1
     injection h1 with h1 UZ;subst UZ
     obtain⟨r',hr,h⟩:=aX.1 h
     cases h
     cases vs with
     |nil=>exact hv.elim
     |cons v vs=>
      cases us with
      |nil=>exact hu.elim
      |cons u us=>
       obtain⟨g1,g2,hg,hv1,SA⟩:=hv
       have e1:g1=[]:=by have:=hg.symm;simp at this;exact this.1
       have e2:g2=[]:=by have:=hg.symm;simp at this;exact this.2
       subst e1;subst e2
       obtain⟨f1,f2,rfl,hu1,hu2⟩:=hu
       obtain⟨f1',f2',rfl,hb1,Lo⟩:=hb
       have k1:=(nv (c':=c) hb1 rfl).1
       subst k1
       exact⟨[],f2',rfl,(nv hu1 rfl).2,ih _ _ hr SA hu2 Lo (λb hb=>hh b (bh _ hb))⟩)
theorem aey {v:Value}(h:iA c v x fp):iA (fy (λ_ b o=>c.S b o/\b<c.w.heap.size) (λ_=>0) c.w) v (x.asArg c.ep) []:=by
 have hS:∀{e:CT}{xs:ar e.D},kg c.w c.S (.sl e) [v] xs->kg c.w (λb o=>c.S b o/\b<c.w.heap.size) (.sl e) [v] xs:=λhr=>
  kg.mono (λb o u hs hu=>⟨⟨hs,World.block_lt_of_cell? c.w _ hu⟩,hu⟩) hr
 cases x with|int k n=>exact⟨h.1,rfl⟩|bool b=>exact⟨h.1,rfl⟩|str s=>exact⟨h.1,rfl⟩|kL=>exact⟨h.1,rfl⟩|fn f=>exact⟨h.1,rfl⟩|ptr s off=>exact rfl|un=>exact rfl|bot=>exact rfl|Hy fl e y i off=>exact rfl|sl fl e xs=>cases fl with|nest _ _ _ _ _ _=>exact rfl|part _ _ _ _=>exact rfl|fK _ _ _=>exact rfl|own t=>exact⟨rfl,hS (eS.rep (λb o ho=> .inr ho) h.1)⟩|arg k=>exact⟨rfl,hS (kg.mono (λb o u hs hu=>⟨.inl ⟨k,hs⟩,hu⟩) h.2)⟩|loc ep pv=>simp only[AC.asArg];split;rename_i he;exact⟨rfl,hS (h.2.2.2.1 (by simpa using he))⟩;exact rfl
theorem Sk:∀{vs:iU}{xs:ar AC}{fp:ec},bD c vs xs fp->bD (fy (λ_ b o=>c.S b o/\b<c.w.heap.size) (λ_=>0) c.w) vs (xs.map (AC.asArg c.ep)) []
 |[],[],_,_=>rfl
 |_::_,_::_,_,h=>by obtain⟨f1,f2,rfl,h1,h2⟩:=h;exact⟨[],[],rfl,aey h1,Sk h2⟩
 |[],_::_,_,h=>h.elim
 |_::_,[],_,h=>h.elim
theorem aii {v:Value}{x:AV}(h:gi c v x fp):gi (fy (λ_ b o=>c.S b o/\b<c.w.heap.size) (λ_=>0) c.w) v (x.asArg c.ep) []:=by
 cases x with
 |val g cs=>obtain⟨vs,hv,h⟩:=h;exact⟨vs,hv,Sk h⟩
 |zU ts=>exact gi.bot _ _
theorem abc (h:dM C g st a w []):∀(args:ar Operand),
 oZ (λ_ b o=>(cO C g st w).S b o/\b<w.heap.size) w (args.map a.eval) (args.map λx=>((st.rd x).fresh st).asArg st.ep)
 |[]=>trivial
 |x::xs=>⟨aii (c:=cO C g st w) (h.fresh (h.rd x)),abc h xs⟩
theorem aez {A':Rg}{v:Value}{tag:au Nat}(h:iA (fy A' hw c.w) v x fp)(hA:∀k b o,A' k b o->c.S b o)(Gz:∀b∈fp,c.hw b=hw b)(ht:∀t,tag=some t->c.iss t/\v=c.hdr t):iA c v (x.KR c.ep tag) fp:=by
 cases x with
 |int k n=>exact h
 |bool b=>exact h
 |str s=>exact h
 |kL=>exact h
 |fn f=>exact h
 |ptr s off=>exact h.2.2
 |un=>exact h
 |bot=>exact h
 |Hy fl e y i off=>cases fl with|own t=>exact h.elim|nest _ _ _ _ _ _=>exact h.elim|part _ _ _ _=>exact h.elim|fK _ _ _=>exact h.elim|arg _=>exact h.1|loc ep pv=>exact h.1
 |sl fl e xs=>
  cases fl with
  |nest _ _ _ _ _ _=>exact h.1
  |part _ _ _ _=>exact h.1
  |fK _ _ _=>obtain⟨_,⟨k,hk,h3⟩,_⟩:=h;exact⟨λq hq=>(by cases hq),⟨k,hk,h3.mono (λb hb=>⟨rfl,Gz b hb⟩)⟩,by simp⟩
  |own t=>exact⟨eS.mono h.1 (λb hb=>⟨rfl,Gz b hb⟩),ht⟩
  |loc ep pv=>exact h.1
  |arg _=>have hr:kg c.w c.S (.sl e) [v] xs:=kg.mono (λb o u hs hu=>⟨hA _ b o hs,hu⟩) h.2;refine⟨h.1,ba _,?_,λ_=>hr,by simp⟩;obtain⟨u,hu,k⟩:=hr;simp at hu;subst hu;rcases k with⟨⟨ad,rfl⟩,rfl⟩|⟨b,o,cap,rfl,_⟩;exact⟨_,_,_,rfl,rfl⟩;exact⟨_,_,_,rfl,rfl⟩
theorem Ht {A':Rg}{mk:Nat->au Nat}(hA:∀k b o,A' k b o->c.S b o):∀{vs:iU}{xs:ar AC}{fp:ec}(j:Nat),bD (fy A' hw c.w) vs xs fp->(∀b∈fp,c.hw b=hw b)->
 (∀i v,vs[i]?=some v->∀t,mk (j+i)=some t->c.iss t/\v=c.hdr t)->bD c vs (Qq c.ep mk j xs) fp
 |[],[],_,_,h,_,_=>h
 |v::_,_::_,_,j,h,hh,hm=>by obtain⟨f1,f2,rfl,h1,h2⟩:=h;exact⟨f1,f2,rfl,aez h1 hA (λb hb=>hh b (br _ hb)) (λt ht=>hm 0 v rfl t ht),Ht hA (j+1) h2 (λb hb=>hh b (bh _ hb)) (λi u hu t ht=>hm (i+1) u (by simpa using hu) t (by rwa[show j+(i+1)=j+1+i by omega]))⟩
 |[],_::_,_,_,h,_,_=>h.elim
 |_::_,[],_,_,h,_,_=>h.elim
inductive Leaves (A:Rg) (hw:Nat->Nat) (w:World):List Value->List (Bool×List AC)->List Nat->List Value->Prop
 |nil:Leaves A hw w [] [] [] []
 |cons {v:Value} {vs:List Value} {g:Bool} {cs:List AC} {ts:List (Bool×List AC)} {f1 f2:List Nat} {us all:List Value} (eM:Cut g v us) (hr:bD (fy A hw w) us cs f1) (h:Leaves A hw w vs ts f2 all):
  Leaves A hw w (v::vs) ((g,cs)::ts) (f1++f2) (us++all)
theorem RD {w:World}:∀{ws:iU}{ts:ar (Bool×ar AC)}{fp:ec},gi.uw (fy A hw w) ws ts fp->∃all,Leaves A hw w ws ts fp all
 |[],[],_,h=>by cases h;exact⟨[],.nil⟩
 |_::_,(g,cs)::_,_,h=>by obtain⟨f1,f2,rfl,⟨us,eM,hr⟩,h2⟩:=h;obtain⟨all,Ln⟩:=RD h2;exact⟨us++all,.cons eM hr Ln⟩
 |[],_::_,_,h=>h.elim
 |_::_,[],_,h=>h.elim
theorem Vs {A':Rg}{mk:Nat->au Nat}(hA:∀k b o,A' k b o->c.S b o){ws:iU}{ts:ar (Bool×ar AC)}{all:iU}(h:Leaves A' hw c.w ws ts fp all): ∀j,(∀b∈fp,c.hw b=hw b)->(∀i v,all[i]?=some v->∀t,mk (j+i)=some t->c.iss t/\v=c.hdr t)->gi.uw c ws (af9 c.ep mk j ts) fp:=by induction h with|nil=>intro j _ _;exact rfl| @cons v vs g cs ts f1 f2 us all eM hr h ih=>intro j hh hm;have hl:=hr.length;refine⟨f1,f2,rfl,⟨us,eM,Ht hA j hr (λb hb=>hh b (br _ hb)) (λi u hu t ht=>?_)⟩,ih _ (λb hb=>hh b (bh _ hb)) (λi u hu t ht=>?_)⟩;exact hm i u (by rw[bF (aJ.1 hu).1];exact hu) t ht;have hl':us.length=cs.length:=hl;refine hm (us.length+i) u (by rw[bw (by omega)];simpa using hu) t ?_;rw[<-fY,hl'];exact ht
def uE (hdr:Nat->Value)(mk:Nat->au Nat)(all:iU):Nat->Value:=λu=>if mk (u/3%4096)=some u then(all[u/3%4096]?).getD undef else hdr u
theorem Gy {all:iU}{t:Nat}(h:nm st t):uE hdr (st.iZ d) all t=hdr t:=by unfold uE;rw[aK];intro e;exact(sU e).1 h
theorem Gx {all:iU}{i t:Nat}{v:Value}(hv:all[i]?=some v)(h:st.iZ d i=some t):v=uE hdr (st.iZ d) all t:=by
 obtain⟨_,_,d',rfl,ht,hi⟩:=sU h;have aoq:t/3%4096=i:=by rw[ht,QO];omega
 unfold uE;rw[aoq,aM h,hv];rfl
theorem dM.TR (h:dM C g st a w [])(o:kb)(Sy:¬dm (some o)){f1 f2 f3:ec}(hn:(f1++f2++f3).Nodup)(hl:∀b∈f1++f2++f3,g.eo b=some o){w':World}{st':AS}{kS:ec}(Ck:st'.ep=st.ep+1)(Lp:st'.iss=st.iss)(uF:∀s,ic st s->ic st' s)(Hq:kS.Nodup)(qV:∀b∈kS,b<w'.heap.size/\(b∈f2\/w.heap.size<=b))(iw:Fr (λb=>b∈f2) w w')(Gz:∀b,b<w.heap.size->b∉f2->hw' b=g.hw b): (cO C g st w).Le (cO C (g.wrote o (f1++kS++f3) hw') st' w')/\(f1++kS++f3).Nodup/\ (∀b∈f1++kS++f3,(g.wrote o (f1++kS++f3) hw').eo b=some o)/\ (∀b∈f1++f3,w'.heap[b]?=w.heap[b]?/\hw' b=g.hw b)/\ (∀b x,¬dm (some x)->x≠o->g.eo b=some x->(g.wrote o (f1++kS++f3) hw').eo b=some x/\w'.heap[b]?=w.heap[b]?/\hw' b=g.hw b)/\ (∀b,g.eo b=some o->b∉f1++f2++f3->(g.wrote o (f1++kS++f3) hw').eo b=some o/\w'.heap[b]?=w.heap[b]?/\hw' b=g.hw b)/\ Fr C.M C.w0 w'/\(∀b x,(g.wrote o (f1++kS++f3) hw').eo b=some x->b<w'.heap.size/\(C.w0.heap.size<=b\/C.M b)):=by
 have Ff:=hn;rw[aW]at Ff;have n1:=aG.1 Ff;have n2:=aG.1 n1.2.1;have EG:∀b∈f1++f3,b∉f2:=by intro b hb h2;rcases aA.1 hb with hb|hb;exact n1.2.2 b hb b (br _ h2) rfl;exact n2.2.2 b h2 b hb rfl
 have hcA:∀k b o u,C.A k b o->w.cell? ⟨b,o,none⟩=some u->w'.cell? ⟨b,o,none⟩=some u:=by intro k b o u hA hu;have hb:b<w.heap.size:=World.block_lt_of_cell? w _ hu;have Pf:¬(b∈f2):=λhm=>h.RB (hl b (by simp[hm])) k o hA;rw[World.cell?_of_block (a:=⟨b,o,none⟩) (iw.block b hb Pf)];exact hu
 have hle:(cO C g st w).Le (cO C (g.wrote o (f1++kS++f3) hw') st' w'):=⟨rfl,λt ht=>⟨by show nm st' t;have ht':nm st t:=ht;simpa[nm,Lp]using ht',rfl⟩,hcA,by show st.ep<=st'.ep;omega,λs hs=>⟨uF s hs,rfl⟩,λhe=>absurd he (by show st'.ep≠st.ep;omega)⟩
 have nO:∀b x,g.eo b=some x->b∉f2->w'.heap[b]?=w.heap[b]?/\hw' b=g.hw b:=by intro b x hb hm;exact⟨iw.block b (h.fV b _ hb).1 hm,Gz b (h.fV b _ hb).1 hm⟩
 have hd1:∀b∈f1++f3,b∉kS:=by intro b hb hm;rcases(qV b hm).2 with h2|h2;exact EG b hb h2;have:=(h.fV b _ (hl b (by rcases aA.1 hb with hb|hb<;>simp[hb]))).1;omega
 refine⟨hle,?_,?_,?_,?_,?_,?_,?_⟩;rw[aW];refine aG.2 ⟨n1.1,aG.2 ⟨Hq,n2.2.1,?_⟩,?_⟩;rintro b hb c hc rfl;exact hd1 b (by simp[hc]) hb;rintro b hb c hc rfl;rcases aA.1 hc with hc|hc;exact hd1 b (by simp[hb]) hc;exact n1.2.2 b hb b (bh _ hc) rfl;intro b hb;show(if b∈f1++kS++f3 then _ else _)=_;rw[aM hb];intro b hb;exact nO b o (hl b (by rcases aA.1 hb with hb|hb<;>simp[hb])) (EG b hb);intro b x hh hxo hb;have hm2:b∉f2:=λhm=>hxo (by have:=hl b (by simp[hm]);rw[hb]at this;simpa using this);refine⟨?_,nO b x hb hm2⟩;show(if b∈f1++kS++f3 then _ else if dm (g.eo b) then none else g.eo b)=_;have ZX:b∉f1++kS++f3:=by intro hm;simp only[aA]at hm;rcases hm with(hm|hm)|hm;exact hxo (by have:=hl b (by simp[hm]);rw[hb]at this;simpa using this);rcases(qV b hm).2 with h2|h2;exact hm2 h2;have:=(h.fV b _ hb).1;omega;exact hxo (by have:=hl b (by simp[hm]);rw[hb]at this;simpa using this)
 rw[aK ZX,aK (by rw[hb];exact hh),hb];intro b hb hm;have hm2:b∉f2:=λk=>hm (by simp[k]);refine⟨?_,nO b o hb hm2⟩;show(if b∈f1++kS++f3 then _ else if dm (g.eo b) then none else g.eo b)=_;rw[aK (c:=dm (g.eo b)) (by rw[hb];exact Sy),hb];split<;>rfl;refine h.frame.trans iw (λb hb hm=>?_);rcases(h.fV b o (hl b (by simp[hm]))).2 with h2|h2;omega;exact h2;intro b x hx;have E2:(if b∈f1++kS++f3 then some o else if dm (g.eo b) then none else g.eo b)=some x:=hx;have hz:=iw.size;have old:∀y,g.eo b=some y->b<w'.heap.size/\(C.w0.heap.size<=b\/C.M b):=λy hy=>⟨iD (h.fV b y hy).1 hz,(h.fV b y hy).2⟩
 split at E2;rename_i hm;simp only[aA]at hm;rcases hm with(hm|hm)|hm;exact old o (hl b (by simp[hm]));rcases(qV b hm).2 with h2|h2;exact old o (hl b (by simp[h2]));exact⟨(qV b hm).1,.inl (aF h.frame.size h2)⟩;exact old o (hl b (by simp[hm]));split at E2;cases E2;exact old x E2
theorem O3 {vs us:iU}{seg:ar AC}{f1 f2 f3:ec}{off n:Nat}(WX:us=(vs.drop off).take n)(hln:us.length=n)(r1:bD c' (vs.take off) (cs.take off) f1)(r2:bD c' us seg f2)(r3:bD c' (vs.drop (off+n)) (cs.drop (off+n)) f3): bD c' vs (du cs off seg) (f1++f2++f3):=by
 have EH:=r2.length;have e:vs=vs.take off++us++vs.drop (off+n):=by rw[WX,aW,<-eL,cK,cK]
 rw[e,du,show seg.length=n by omega];exact bD.append (bD.append r1 r2) r3
theorem dM.amq (h:dM C g st a w [])(r:lS){IA:ar AC}(fA:st.xT r=some IA)(off n:Nat)(ZU:((IA.drop off).take n).length=n): ∃us f2,bD (cO C g st w) us ((IA.drop off).take n) f2/\f2.Nodup/\(∀b∈f2,b<w.heap.size/\∀k o,¬C.A k b o)/\ ∀(w':World)(hw':Nat->Nat)(seg:ar AC)(kS:ec),kS.Nodup->(∀b∈kS,b<w'.heap.size/\(b∈f2\/w.heap.size<=b))->Fr (λb=>b∈f2) w w'-> (∀b,b<w.heap.size->b∉f2->hw' b=g.hw b)->(∀c',(cO C g st w).Le c'->c'.w=w'->c'.hw=hw'->bD c' us seg kS)-> ∃g',dM C g' {st.tj r (du IA off seg)with ep:=st.ep+1} a w' []:=by
 have core:∀(o:kb),¬dm (some o)->∀{vs:iU}{fp:ec},bD (cO C g st w) vs IA fp->fp.Nodup->(∀b∈fp,g.eo b=some o)->
  ∃us f1 f2 f3,fp=f1++f2++f3/\bD (cO C g st w) us ((IA.drop off).take n) f2/\f2.Nodup/\(∀b∈f2,b<w.heap.size/\∀k o,¬C.A k b o)/\
   ∀(w':World)(hw':Nat->Nat)(st':AS)(seg:ar AC)(kS:ec),st'.ep=st.ep+1->st'.iss=st.iss->(∀s,ic st s->ic st' s)->kS.Nodup->(∀b∈kS,b<w'.heap.size/\(b∈f2\/w.heap.size<=b))->Fr (λb=>b∈f2) w w'->
    (∀b,b<w.heap.size->b∉f2->hw' b=g.hw b)->(∀c',(cO C g st w).Le c'->c'.w=w'->c'.hw=hw'->bD c' us seg kS)->
    bD (cO C (g.wrote o (f1++kS++f3) hw') st' w') vs (du IA off seg) (f1++kS++f3):=by
  intro o Sy vs fp hr hn hl
  obtain⟨f1,f2,f3,rfl,r1,r2,r3⟩:=hr.mid off n
  have Ff:=hn
  rw[aW]at Ff
  have n2:=aG.1 (aG.1 Ff).2.1
  refine⟨_,f1,f2,f3,rfl,r2,n2.1,λb hb=>⟨(h.fV b o (hl b (by simp[hb]))).1,λk q=>h.RB (hl b (by simp[hb])) k q⟩,?_⟩
  intro w' hw' st' seg kS Ck Lp uF Hq qV iw Gz L3
  obtain⟨hle,_,_,hk,_⟩:=h.TR o Sy hn hl Ck Lp uF Hq qV iw Gz
  exact O3 rfl (by rw[r2.length];exact ZU) (r1.mono hle λb hb=>hk b (by simp[hb])) (L3 _ hle rfl rfl) (r3.mono hle λb hb=>hk b (by simp[hb]))
 cases r with
 |slot s j=>
  simp only[AS.xT]at fA;cases hg:st.get s with
  |zU ts=>rw[hg]at fA;cases fA
  |val gg cs=>
   rw[hg]at fA;cases fA;have aAl:s<st.slots.length\/¬s<st.slots.length:=bS s st.slots.length|>.imp id Nat.not_lt.2;obtain⟨fp,hr,hn,hl⟩:=h.slot s;rw[hg]at hr;obtain⟨vs,eM,hr⟩:=hr;obtain⟨us,f1,f2,f3,rfl,WX,C1,Lo,ng⟩:=core (.slot s) (by simp[fU]) hr hn hl;refine⟨us,f2,WX,C1,Lo,?_⟩;intro w' hw' seg kS Hq qV iw Gz L3;let st':AS:={st.tj (.slot s j) (du IA off seg)with ep:=st.ep+1}
   have lI:st'={st with slots:=st.slots.set s (.val gg (du IA off seg)),ep:=st.ep+1}:=by show({st.tj (.slot s j) (du IA off seg)with ep:=st.ep+1}:AS)=_;simp only[AS.tj,hg,AS.put,fD]
   have WH:∀t,ic st t->ic st' t:=λt ht=>by rw[lI];exact ht
   obtain⟨hle,OL,hll,_,hk1,_,OI,LZ⟩:=h.TR (.slot s) (by simp[fU]) hn hl (st':=st') rfl (by rw[lI]) WH Hq qV iw Gz;have dY:=ng w' hw' st' seg kS rfl (by rw[lI]) WH Hq qV iw Gz L3;refine⟨_,h.step (λx=>¬dm (some x)/\x≠ .slot s) hle h.defers ?_ ?_ OI LZ (λb x hk hx=>hk1 b x hk.1 hk.2 hx) ?_ ?_ (λk u bv hk=>by simp at hk) (.inl ⟨⟨by simp[fU],by simp⟩,by show st'.io=st.io;rw[lI]⟩)⟩;show _=st'.slots.length;rw[lI];simpa using h.size;show st'.boxes.length=st'.slots.length;rw[lI];simpa using h.bsize;intro i av hi;have uu:(st.slots.set s (.val gg (du IA off seg)))[i]?=some av:=by have:st'.slots[i]?=some av:=hi;rw[lI]at this;exact this
   by_cases his:i=s;subst his;rw[bt]at uu;simp only[cd]at uu;split at uu;simp at uu;subst uu;exact .inr ⟨_,⟨vs,eM,dY⟩,OL,hll⟩;cases uu;rw[aZ (cW his)]at uu;exact .inl ⟨⟨by simp[fU],by simpa using his⟩,uu,rfl⟩;intro t oY hb;have ib:st.boxes[t]?=some (some oY):=by have:st'.boxes[t]?=some (some oY):=hb;rw[lI]at this;exact this
   exact .inl ⟨⟨by simp[fU],by simp⟩,ib,rfl⟩
 |box s j=>
  have kR:st.boxes[s]?=some (some IA):=by simp only[AS.xT,dV]at fA;cases hb:st.boxes[s]? with|none=>simp[hb]at fA|some q=>rw[hb]at fA;simp at fA;rw[fA]
  have Cs:s<st.boxes.length:=(aJ.1 kR).1;obtain⟨arr,T,fr,fp,kG,uG,hr,hn,xe,hl,ND,NU⟩:=h.boxes s IA kR;obtain⟨us,f1,f2,f3,rfl,WX,C1,Lo,ng⟩:=core (.box s) (by simp[fU]) hr hn hl;refine⟨us,f2,WX,C1,Lo,?_⟩;intro w' hw' seg kS Hq qV iw Gz L3;let st':AS:={st.tj (.box s j) (du IA off seg)with ep:=st.ep+1}
  have lI:st'={st with boxes:=st.boxes.set s (some (du IA off seg)),ep:=st.ep+1}:=by show({st.tj (.box s j) (du IA off seg)with ep:=st.ep+1}:AS)=_;simp only[AS.tj,AS.eY,fD]
  have WH:∀t,ic st t->ic st' t:=λt ht=>by rw[lI];obtain⟨c0,hc0⟩:=ht;by_cases uH:s=t;subst uH;exact⟨du IA off seg,by simp[Cs]⟩;exact⟨c0,by rw[aZ uH];exact hc0⟩
  obtain⟨hle,OL,hll,_,hk1,hk2,OI,LZ⟩:=h.TR (.box s) (by simp[fU]) hn hl (st':=st') rfl (by rw[lI]) WH Hq qV iw Gz;have dY:=ng w' hw' st' seg kS rfl (by rw[lI]) WH Hq qV iw Gz L3;have ON:=hk2 (g.β s) ND xe;refine⟨_,h.step (λx=>¬dm (some x)/\x≠ .box s) hle h.defers ?_ ?_ OI LZ (λb x hk hx=>hk1 b x hk.1 hk.2 hx) ?_ ?_ (λk u bv hk=>by simp at hk) (.inl ⟨⟨by simp[fU],by simp⟩,by show st'.io=st.io;rw[lI]⟩)⟩;show _=st'.slots.length;rw[lI];exact h.size;show st'.boxes.length=st'.slots.length;rw[lI];simpa using h.bsize;intro i av hi;have uu:st.slots[i]?=some av:=by have:st'.slots[i]?=some av:=hi;rw[lI]at this;exact this
  exact .inl ⟨⟨by simp[fU],by simp⟩,uu,rfl⟩;intro t oY hb;have ib:(st.boxes.set s (some (du IA off seg)))[t]?=some (some oY):=by have:st'.boxes[t]?=some (some oY):=hb;rw[lI]at this;exact this
  by_cases uH:t=s;subst uH;rw[bt]at ib;simp only[cd,Cs]at ib;simp at ib;subst ib;have NF:g.β t∉f1++kS++f3:=by intro hm;simp only[aA]at hm;rcases hm with(hm|hm)|hm;exact xe (by simp[hm]);rcases(qV _ hm).2 with h2|h2;exact xe (by simp[h2]);have:=(h.fV _ _ ND).1;omega;exact xe (by simp[hm])
  exact .inr ⟨arr,T,fr,_,ON.2.1.trans kG,uG,dY,OL,NF,hll,ON.1,ON.2.2.trans NU⟩;rw[aZ (cW uH)]at ib;exact .inl ⟨⟨by simp[fU],by simpa using uH⟩,ib,rfl⟩
 |io j=>
  simp only[AS.xT,bf]at fA;subst fA;obtain⟨fp,hr,hn,hl⟩:=h.io;obtain⟨us,f1,f2,f3,rfl,WX,C1,Lo,ng⟩:=core .io (by simp[fU]) hr hn hl;refine⟨us,f2,WX,C1,Lo,?_⟩;intro w' hw' seg kS Hq qV iw Gz L3;let st':AS:={st.tj (.io j) (du st.io off seg)with ep:=st.ep+1}
  have lI:st'={st with io:=du st.io off seg,ep:=st.ep+1}:=rfl;have WH:∀t,ic st t->ic st' t:=λt ht=>by rw[lI];exact ht
  obtain⟨hle,OL,hll,_,hk1,_,OI,LZ⟩:=h.TR .io (by simp[fU]) hn hl (st':=st') rfl (by rw[lI]) WH Hq qV iw Gz;have dY:=ng w' hw' st' seg kS rfl (by rw[lI]) WH Hq qV iw Gz L3;refine⟨_,h.step (λx=>¬dm (some x)/\x≠ .io) hle h.defers ?_ ?_ OI LZ (λb x hk hx=>hk1 b x hk.1 hk.2 hx) ?_ ?_ (λk u bv hk=>by simp at hk) (.inr ⟨_,dY,OL,hll⟩)⟩;exact h.size;exact h.bsize;intro i av hi;exact .inl ⟨⟨by simp[fU],by simp⟩,hi,rfl⟩;intro t oY hb;exact .inl ⟨⟨by simp[fU],by simp⟩,hb,rfl⟩
theorem Ob:∀(os ss:ar AC){r:ar AC},oP os ss=some r->ss.length=os.length:=by
 intro os
 induction os with
 |nil=>intro ss r h;cases ss with
  |nil=>rfl
  |cons _ _=>simp[oP]at h
 |cons o os ih=>
  intro ss r h
  cases ss with
  |nil=>unfold oP at h;split at h<;>first|contradiction|cases h
  |cons s ss=>
   unfold oP at h
   split at h
   ·contradiction
   ·rename_i h1 h2
    injection h1 with h1 UZ;subst UZ
    injection h2 with h2 h2';subst h2'
    rw[Bool.cond_eq_ite]at h
    split at h
    ·obtain⟨r',hr,h⟩:=aX.1 h
     simp[ih _ hr]
    ·cases h
   all_goals first
    |cases h
    |(rename_i h1 h2
      injection h1 with h1 UZ;subst UZ
      injection h2 with h2 h2';subst h2'
      obtain⟨r',hr,h⟩:=aX.1 h
      simp[ih _ hr])
theorem Rl (h:dM C g st a w []):∀(xs:ar Operand),xs.all (λx=>(st.rd x).gZ)=true->oZ A w (xs.map a.eval) (xs.map st.rd)
 |[],_=>trivial
 |x::xs,hf=>by simp only[bV,ah]at hf;exact⟨IP (h.rd x) hf.1,Rl h xs hf.2⟩
theorem ajP {w:World}{e:CT}{v:Value}{xs:ar e.D}{fp0:ec}(h:eS hw w (.sl e) [v] xs fp0){n:Nat}{x:e.D}(hx:xs[n]?=some x): ∃b o0 cap arr T fr f1 fx f3,v=.slice (some ⟨b,o0,none⟩) xs.length cap/\w.heap[b]?=some (.cells arr T fr)/\ eS hw w e ((arr.toList.drop (o0+n*e.size)).take e.size) x fx/\fp0=b::(f1++fx++f3)/\ ∀(w':World)(hw':Nat->Nat)(x':e.D)(fx':ec),(∀b'∈b::(f1++f3),w'.heap[b']?=w.heap[b']?/\hw' b'=hw b')-> eS hw' w' e ((arr.toList.drop (o0+n*e.size)).take e.size) x' fx'->eS hw' w' (.sl e) [v] (xs.set n x') (b::(f1++fx'++f3)):=by
 obtain⟨u,hu,h⟩:=h;simp at hu;subst hu;have Pf:n<xs.length:=(aJ.1 hx).1;rcases h with⟨⟨_,rfl⟩,rfl,rfl⟩|⟨b,o0,cap,arr,T,fr,fps,rfl,hb,uG,hs,hc,hh,rfl,hl,hr⟩;simp at hx;have TN:fps[n]?=some fps[n]:=al (by omega);have NC:=Hz TN;refine⟨b,o0,cap,arr,T,fr,(fps.take n).flatten,fps[n],(fps.drop (n+1)).flatten,rfl,hb,hr n x _ hx TN,by rw[NC.1],?_⟩;intro w' hw' x' fx' hk fA;have X0:=hk b (by simp);refine⟨_,rfl,.inr ⟨b,o0,cap,arr,T,fr,fps.set n fx',by simp,X0.1.trans hb,uG,hs,by simpa using hc,by rw[X0.2];simpa using hh,by rw[NC.2],by simp[hl],?_⟩⟩;intro i y f hy hf;by_cases vC:i=n;subst vC;rw[bt]at hy hf;simp only[cd,Pf]at hy;simp only[cd]at hf;rw[zip]at hf;simp at hy hf;subst hy;subst hf;exact fA;rw[aZ (cW vC)]at hy hf;refine eS.mono (hr i y f hy hf) (λb' alA=>hk b' (dJ _ ?_));have U6:i<fps.length:=(aJ.1 hf).1;have hfi:fps[i]=f:=by rw[al U6]at hf;simpa using hf
 rcases Nat.lt_or_gt_of_ne vC with iG|hgt;refine br _ (List.mem_flatten.2 ⟨f,?_,alA⟩);rw[List.mem_take_iff_getElem];exact⟨i,by omega,hfi⟩;refine bh _ (List.mem_flatten.2 ⟨f,?_,alA⟩);rw[List.mem_drop_iff_getElem];exact⟨i-(n+1),by omega,by rw[<-hfi];congr 1;omega⟩
theorem bD.single {vs:iU}(h:bD c vs [x] fp):∃v,vs=[v]/\iA c v x fp:=by cases vs with|nil=>exact h.elim|cons v vs=>obtain⟨f1,f2,rfl,h1,h2⟩:=h;cases vs with|nil=>cases h2;exact⟨v,rfl,by simpa using h1⟩|cons _ _=>exact h2.elim
theorem an7 {g:Bool}{v:Value}{a b:iU}(h:Cut g v a)(k:Cut g v b):b=a:=by cases g with|true=>simp only[Cut,cd]at h k;have:=h.symm.trans k;simp at this;exact this.symm|false=>simp only[Cut]at h k;simp at h k;rw[h,k]
theorem aoI (Ey:∀f,mz P f (Γ f)){o':Oper}(ho:o'.op=.call {callee:=.value f,args,argTypes:=ts})(hg:dM C g st a w [])(hf:st.rd f=.val false [.fn k])(PJ:(Γ k).io=true){x0:Operand}{xs:ar Operand}(fJ:args.toList=x0::xs){gg:Bool}(hx0:st.rd x0=.val gg cs){K:AS->au R}(hk:Yv Γ o' k gg cs xs st K=some r)(next:Act->World->Prop)(Q:Exit->Act->World->Prop)(gm:∀st' a' w',pF C st' a' w'->K st'=some r->next a' w'):o'.wp P a w next Q:=by
 have Lw:=hg.rd f;rw[hf]at Lw;have Lw:=(eG Lw).1;unfold Yv at hk;split at hk
 ·rename_i ep rt t en i off e1 ws;split at hk
  ·rename_i IA fA;split at hk
   ·rename_i t' e ys hO;cases hc:((ep==st.ep)&&(t'==t)&&(en.size==e.size)&&xs.all (λx=>(st.rd x).gZ))with
    |false=>rw[hc]at hk;cases hk
    |true=>
     rw[hc]at hk;simp only[af]at hk;simp only[ah,bn]at hc;obtain⟨⟨⟨Ck,htt⟩,xp⟩,Sw⟩:=hc;subst htt;cases JI:idx ys i with
     |none=>rw[JI]at hk;cases hk
     |some x=>
      rw[JI]at hk;simp only[aa]at hk;split at hk
      ·rename_i tg0 e2 zs ZU;cases fL:(Γ k).fn (.val gg [.sl (.own none) e2 zs]::xs.map st.rd)with
       |none=>rw[fL]at hk;cases hk
       |some y=>
        rw[fL]at hk;simp only at hk;split at hk
        ·rename_i tg e3 zs' alB;split at hk
         ·rename_i x' hof;cases hfl:((Γ k).av y).gZ with
          |false=>rw[hfl]at hk;cases hk
          |true=>
           rw[hfl]at hk;simp only[af]at hk;obtain⟨⟨fn,c,TN,PG,Af⟩,_,tf,_⟩:=Ey k _ y fL;have tf:=tf PJ gg _ (xs.map st.rd) rfl;have PM:=hg.rd x0;rw[hx0]at PM;obtain⟨vs0,eM,L2⟩:=PM;obtain⟨v,rfl,aro⟩:=L2.single;obtain⟨us,f2,WX,C1,Lo,ng⟩:=hg.amq rt fA rt.pos 1 (by rw[hO];rfl);rw[hO]at WX;obtain⟨u,rfl,alY⟩:=WX.single;obtain⟨n,vC,hxn⟩:=Vc JI;obtain⟨b,o0,cap,arr,T,fr,f1,fx,f3,hu,kG,NQ,ap1,Ih⟩:=ajP alY.1 hxn;obtain⟨_,n2,b2,o2,aAn,abk,ap4,PI,_,_,E1⟩:=aro.2.2.2 Ck;have hun:=(alY.2 t' rfl).2;rw[PI,hu]at hun;simp only[Value.slice.injEq,bf,Addr.mk.injEq]at hun;obtain⟨⟨rfl,rfl,_⟩,_,_⟩:=hun;have OL:n2=n:=by omega
           subst OL;rw[xp]at E1;have apX:arr[o0+n2*e.size+off]?=some v:=by rw[<-oU kG];exact E1
           have alZ:=wz (c:=cO C g st w) NQ;obtain⟨k1,k2,k3,hkx,r1,r2,r3⟩:=alZ.mid off 1;rw[ZU]at r2;obtain⟨v',Z1,aqj⟩:=r2.single;have hvv:v'=v:=by
            have h0:(((arr.toList.drop (o0+n2*e.size)).take e.size).drop off).take 1=[v']:=Z1;have h1:((((arr.toList.drop (o0+n2*e.size)).take e.size).drop off).take 1)[0]?=some v':=by rw[h0];rfl
            rw[dk]at h1;simp only[Nat.zero_lt_one,cd]at h1;rw[bQ,dk]at h1;split at h1;rw[bQ,cm,dW,apX]at h1;simpa using h1.symm;cases h1
           subst hvv;have aor:=C1;rw[ap1,hkx]at aor;have xe:=dg.1 aor;have m0:=xe.2;rw[aW]at m0;have m1:=aG.1 m0;have m2:=aG.1 m1.2.1;have m2a:=m2.1;rw[aW]at m2a;have m3:=aG.1 m2a;have m4:=aG.1 m3.2.1;have ahm:∀q∈k2,q∈f2:=λq hq=>by rw[ap1,hkx];simp[hq]
           have HD:=tf (λ_ _ _=>False) w (a.eval x0) (xs.map a.eval) g.hw k2 (λ_ _ _ hf=>hf.elim) ⟨[v'],eM,k2,[],by simp,⟨aqj.1,by simp⟩,rfl⟩ m4.1 (λq hq=>(Lo q (ahm q hq)).1) (Rl hg xs Sw);have U0:(a.eval x0::xs.map a.eval).toArray=args.map a.eval:=by apply eO;simp[fJ]
           rw[U0]at HD;have ej:(execOp a.eval o').run P w=.ok (.enter k (args.map a.eval)) w:=by simp[execOp,ho,resolve,Lw,Deferred.ofValue,invoke,callFunc,TN,PG];simpa using Af
           unfold Oper.wp;rw[ej,Oper.upon_enter];refine HD.mono ?_;rintro e' w' ⟨vr,hw',frr,jg,rfl,dY,⟨vs1,PH,hbk⟩,JK,Hp,iw⟩;show next (a.put o'.dst vr) w'
           have hvs:=an7 eM PH;subst hvs;rw[alB]at hbk;obtain⟨v2,SA,azu⟩:=hbk.single;simp only[List.cons.injEq,iV]at SA;subst SA;have EG:∀q,q∈f2->q∉k2->q∉jg:=λq hq hq2 hm=>by rcases(Hp q hm).2 with h2|h2;exact hq2 h2;have:=(Lo q hq).1;omega
           have kH:∀q,(q=b\/q∈f1\/q∈k1\/q∈k3\/q∈f3)->q∈f2/\q∉k2:=by intro q hq;constructor;rw[ap1,hkx];rcases hq with hq|hq|hq|hq|hq<;>simp[hq];intro h2;rcases hq with hq|hq|hq|hq|hq;subst hq;exact xe.1 (by simp[h2]);exact m1.2.2 q hq q (by simp[h2]) rfl;exact m3.2.2 q hq q (by simp[h2]) rfl;exact m4.2.2 q h2 q hq rfl;exact m2.2.2 q (by simp[h2]) q hq rfl
           have azL:(b::(f1++(k1++jg++k3)++f3)).Nodup:=by refine dg.2 ⟨λhm=>?_,?_⟩;simp only[aA]at hm;rcases hm with(hm|((hm|hm)|hm))|hm;exact xe.1 (by simp[hm]);exact xe.1 (by simp[hm]);exact EG b (kH b (.inl rfl)).1 (kH b (.inl rfl)).2 hm;exact xe.1 (by simp[hm]);exact xe.1 (by simp[hm]);have hd':∀q,(q∈f1\/q∈k1\/q∈k3\/q∈f3)->q∉jg:=λq hq=>EG q (kH q (.inr hq)).1 (kH q (.inr hq)).2;rw[aW];refine aG.2 ⟨m1.1,aG.2 ⟨?_,m2.2.1,?_⟩,?_⟩;rw[aW];refine aG.2 ⟨m3.1,aG.2 ⟨JK,m4.2.1,?_⟩,?_⟩;rintro c hc d hd rfl;exact hd' c (by simp[hd]) hc;rintro c hc d hd rfl;rcases aA.1 hd with hd|hd;exact hd' c (by simp[hc]) hd;exact m3.2.2 c hc c (bh _ hd) rfl;rintro c hc d hd rfl;simp only[aA]at hc;rcases hc with(hc|hc)|hc;exact m2.2.2 c (by simp[hc]) c hd rfl;exact hd' c (by simp[hd]) hc;exact m2.2.2 c (by simp[hc]) c hd rfl;rintro c hc d hd rfl;simp only[aA]at hd;rcases hd with((hd|hd)|hd)|hd;exact m1.2.2 c hc c (by simp[hd]) rfl;exact hd' c (by simp[hc]) hd;exact m1.2.2 c hc c (by simp[hd]) rfl;exact m1.2.2 c hc c (by simp[hd]) rfl
           have alP:i.toNat=n2:=by omega
           obtain⟨g',oV⟩:=ng w' (λq=>if q∈jg then hw' q else g.hw q) [.sl (.own (some t')) e (ys.set n2 x')] (b::(f1++(k1++jg++k3)++f3)) azL
            (λq hq=>by
             have hz:=iw.size;by_cases hm:q∈jg;refine⟨(Hp q hm).1,?_⟩;rcases(Hp q hm).2 with h2|h2;exact .inl (ahm q h2);exact .inr h2;have h2:q∈f2:=by refine(kH q ?_).1;simp only[cp,aA]at hq;rcases hq with hq|(hq|((hq|hq)|hq))|hq;exact .inl hq;simp[hq];simp[hq];exact absurd hq hm;simp[hq];simp[hq]
             exact⟨by have:=(Lo q h2).1;omega,.inl h2⟩)
            ⟨iw.os,iw.tape,iw.output,iw.size,λq hq hm=>iw.block q hq (λh2=>hm (ahm q h2))⟩
            (λq hq hm=>by
             have:q∉jg:=λh2=>by rcases(Hp q h2).2 with h3|h3;exact hm (ahm q h3);omega
             simp[this])
            (λc' hle Tj Gv=>by
             have nO:∀q,(q=b\/q∈f1\/q∈k1\/q∈k3\/q∈f3)->c'.w.heap[q]?=w.heap[q]?/\c'.hw q=g.hw q:=by intro q hq;have h2:=kH q hq;rw[Tj,Gv];exact⟨iw.block q (Lo q h2.1).1 h2.2,by simp[EG q h2.1 h2.2]⟩
             have ab5:bD c' [v'] [.sl (.own none) e3 zs'] jg:=by refine⟨jg,[],by simp,⟨?_,by simp⟩,rfl⟩;have h0:eS hw' w' (.sl e3) [v'] zs' jg:=azu.1;refine eS.mono h0 (λq hq=>?_);rw[Tj,Gv];exact⟨rfl,by simp[hq]⟩
             have PO:=O3 (c':=c') (vs:=(arr.toList.drop (o0+n2*e.size)).take e.size) (us:=[v']) (cs:=cellsOf e (.own none) x) (off:=off) (n:=1) Z1.symm rfl (r1.mono hle (λq hq=>nO q (by simp[hq]))) ab5 (r3.mono hle (λq hq=>nO q (by simp[hq])));obtain⟨q1,q2,hq,hq1,hq2⟩:=rb PO hof;have hln:((arr.toList.drop (o0+n2*e.size)).take e.size).length=e.size:=eS.length NQ;rw[dj (by omega)]at hq2;have alW:q2=[]:=hq2;subst alW;rw[bL (by omega)]at hq1;rw[bC]at hq;subst hq;have hO':=Ih c'.w c'.hw x' _ (λq hq=>nO q (by simp only[cp,aA]at hq;rcases hq with hq|hq|hq<;>simp[hq])) hq1;refine⟨_,[],by simp,⟨hO',λq hq=>?_⟩,rfl⟩;cases hq;have h1:=alY.2 t' rfl;exact⟨(hle.hdr t' h1.1).1,by rw[(hle.hdr t' h1.1).2];exact h1.2⟩)
           rw[alP]at hk;exact gm _ _ _ ⟨g',oV.quiet o'.dst (IP dY hfl)⟩ hk
         cases hk
        cases hk
      cases hk
   cases hk
  cases hk
 cases hk
theorem ary (Ey:∀f,mz P f (Γ f)){o':Oper}(ho:o'.op=.call {callee:=.value f,args,argTypes:=ts})(hg:dM C g st a w [])(hf:st.rd f=.val false [.fn k])(PJ:(Γ k).io=true){K:AS->au R}(hk:ioC Γ o' k args.toList st K=some r)(next:Act->World->Prop)(Q:Exit->Act->World->Prop)(gm:∀st' a' w',pF C st' a' w'->K st'=some r->next a' w'):o'.wp P a w next Q:=by
 have Lw:=hg.rd f;rw[hf]at Lw;have Lw:=(eG Lw).1;unfold ioC at hk;split at hk
 ·rename_i x0 xs fJ;split at hk
  ·rename_i gg cs hx0;split at hk
   ·rename_i rt j U5;split at hk
    ·rename_i IA fA;split at hk
     ·rename_i oY L3;cases Sw:(xs.all λx=>(st.rd x).gZ)with
      |false=>rw[Sw]at hk;cases hk
      |true=>
       rw[Sw]at hk;simp only[af]at hk;cases fL:(Γ k).fn (.val gg oY::xs.map st.rd)with
       |none=>rw[fL]at hk;cases hk
       |some y=>
        rw[fL]at hk;simp only[aa]at hk;split at hk
        ·rename_i seg alB;cases hfl:((Γ k).av y).gZ with
         |false=>rw[hfl]at hk;cases hk
         |true=>
          rw[hfl]at hk;simp only[af]at hk;obtain⟨⟨fn,c,TN,PG,Af⟩,_,tf,_⟩:=Ey k _ y fL;have tf:=tf PJ gg oY (xs.map st.rd) rfl;have PM:=hg.rd x0;rw[hx0]at PM;obtain⟨vs0,eM,L2⟩:=PM;have ZU:=Ob _ _ L3;obtain⟨us,f2,WX,C1,Lo,ng⟩:=hg.amq rt fA (rt.pos-j) cs.length ZU;have apU:=VW (A:=λ_ _ _=>False) _ _ L3 L2 WX;have HD:=tf (λ_ _ _=>False) w (a.eval x0) (xs.map a.eval) g.hw f2 (λ_ _ _ hf=>hf.elim) ⟨vs0,eM,apU⟩ C1 (λb hb=>(Lo b hb).1) (Rl hg xs Sw);have U0:(a.eval x0::xs.map a.eval).toArray=args.map a.eval:=by apply eO;simp[fJ]
          rw[U0]at HD;have ej:(execOp a.eval o').run P w=.ok (.enter k (args.map a.eval)) w:=by simp[execOp,ho,resolve,Lw,Deferred.ofValue,invoke,callFunc,TN,PG];simpa using Af
          unfold Oper.wp;rw[ej,Oper.upon_enter];refine HD.mono ?_;rintro e w' ⟨v,hw',fr,jg,rfl,dY,⟨vs1,PH,hbk⟩,JK,Hp,iw⟩;show next (a.put o'.dst v) w'
          have hvs:vs1=vs0:=by cases gg with|true=>simp only[Cut,cd]at eM PH;have:=eM.symm.trans PH;simp at this;exact this.symm|false=>simp only[Cut]at eM PH;simp at eM PH;rw[eM,PH]
          subst hvs;let hwn:Nat->Nat:=λb=>if b∈jg then hw' b else g.hw b
          obtain⟨g',oV⟩:=ng w' (λb=>if b∈jg then hw' b else g.hw b) seg jg JK Hp iw (λb hb hm=>by
           have:b∉jg:=λhm'=>by rcases(Hp b hm').2 with h2|h2;exact hm h2;omega
           simp[this]) (λc' hle Tj Gv=>by
           refine ado (A:=λ_ _ _=>False) (hw':=hw') hle _ _ _ alB L2 WX (by rw[Tj];exact hbk) (λb hb=>by rw[Gv];simp[hb]))
          refine gm _ _ _ ⟨g',oV.quiet o'.dst (IP dY hfl)⟩ hk
        cases hk
     cases hk
    cases hk
   ·exact aoI Ey ho hg hf PJ fJ hx0 hk next Q gm
  cases hk
 cases hk
theorem Ov {A':Rg}{mk:Nat->au Nat}{k:Bool}(hA:A' true=c.A k):∀{vs:iU}{xs:ar AC}{fp:ec}(j:Nat),bD (fy A' hw c.w) vs xs fp->xs.all (AC.EZ true)=true->
 (∀b∈fp,c.hw b=hw b)->(∀i v,vs[i]?=some v->∀t,mk (j+i)=some t->c.iss t/\v=c.hdr t)->bD c vs (sM k mk j xs) fp
 |[],[],_,_,h,_,_,_=>h
 |v::_,x::_,_,j,h,kX,hh,hm=>by
  obtain⟨f1,f2,rfl,h1,h2⟩:=h;simp only[bV,ah]at kX;refine⟨f1,f2,rfl,?_,Ov hA (j+1) h2 kX.2 (λb hb=>hh b (bh _ hb)) (λi u hu t ht=>hm (i+1) u (by simpa using hu) t (by rwa[show j+(i+1)=j+1+i by omega]))⟩;have Gz:∀b∈f1,c.hw b=hw b:=λb hb=>hh b (br _ hb);have ht:∀t,mk j=some t->c.iss t/\v=c.hdr t:=λt ht=>hm 0 v rfl t ht;have kX:=kX.1;cases x with
  |sl fl e xs=>
   cases fl with
   |own t=>exact⟨eS.mono h1.1 (λb hb=>⟨rfl,Gz b hb⟩),ht⟩
   |arg k'=>
    have hk:k'=true:=by simpa[AC.EZ]using kX
    subst hk;exact⟨h1.1,by rw[<-hA];exact h1.2⟩
   |loc _ _=>cases kX
   |nest _ _ _ _ _ _=>cases kX
   |part _ _ _ _=>cases kX
   |fK _ _ _=>cases kX
  |int _ _=>exact h1
  |bool _=>exact h1
  |str _=>exact h1
  |fn _=>exact h1
  |kL=>cases kX
  |ptr _ _=>cases kX
  |Hy _ _ _ _ _=>cases kX
  |un=>cases kX
  |bot=>cases kX
 |[],_::_,_,_,h,_,_,_=>h.elim
 |_::_,[],_,_,h,_,_,_=>h.elim
theorem QQ {A':Rg}{w:World}{k:Bool}:∀{cs:ar AC},cs.all (AC.EZ k)=true->∀{c:RC}{vs:iU}{fp:ec},bD c vs cs fp->c.w=w->c.hw=hw->A' true=c.A k->bD (fy A' hw w) vs (cs.map AC.aaU) fp
 |[],_,c,vs,fp,h,_,_,_=>by cases vs with|nil=>exact h|cons _ _=>exact h.elim
 |x::cs,kX,c,vs,fp,h,Tj,Gv,hA=>by
  cases vs with
  |nil=>exact h.elim
  |cons v vs=>
   obtain⟨f1,f2,rfl,h1,h2⟩:=h;simp only[bV,ah]at kX;refine⟨f1,f2,rfl,?_,QQ kX.2 h2 Tj Gv hA⟩;have kX:=kX.1;cases x with
   |sl fl e xs=>
    cases fl with
    |own t=>exact⟨by have:=h1.1;rw[Tj,Gv]at this;exact this,by simp⟩
    |arg k'=>
     have hk:k'=k:=by simpa[AC.EZ]using kX
     subst hk;exact⟨h1.1,by have:=h1.2;rw[Tj,<-hA]at this;exact this⟩
    |loc _ _=>cases kX
    |nest _ _ _ _ _ _=>cases kX
    |part _ _ _ _=>cases kX
    |fK _ _ _=>cases kX
   |int _ _=>exact h1
   |bool _=>exact h1
   |str _=>exact h1
   |fn _=>exact h1
   |kL=>cases kX
   |ptr _ _=>cases kX
   |Hy _ _ _ _ _=>cases kX
   |un=>cases kX
   |bot=>cases kX
theorem Yo (h:dM C g st a w [])(s:Nat){A':Rg}(hA:∀b o,(cO C g st w).S b o/\b<w.heap.size/\g.eo b≠some (.box s)->A' false b o):∀(xs:ar Operand),xs.all (I1 st)=true->
 oZ A' w (xs.map a.eval) (xs.map (HW st))
 |[],_=>trivial
 |x::xs,hx=>by
  simp only[bV,ah]at hx;refine⟨?_,Yo h s hA xs hx.2⟩;have hx:=hx.1;cases x with
  |const _=>exact IP (h.rd _) hx
  |func _=>exact IP (h.rd _) hx
  |global _=>exact IP (h.rd _) hx
  |tmp t=>
   have fA:∀(t0:Nat){e:CT}{v:Value}{xs:ar e.D}{fp:ec},eS g.hw w (.sl e) [v] xs fp->(∀b∈fp,g.eo b=some (.slot t0))->kg w (A' false) (.sl e) [v] xs:=by
    intro t0 e v xs fp h1 hl;have h3:eS (λb=>if b∈fp then g.hw b else 0) w (.sl e) [v] xs fp:=eS.mono h1 (λb hb=>⟨rfl,by simp[hb]⟩)
    exact eS.rep (λb o ho=>by
     by_cases hb:b∈fp;have ho:o<g.hw b:=by simpa[hb]using ho
     have X1:=hl b hb;exact hA b o ⟨.inr ho,(h.fV b _ X1).1,by rw[X1];simp⟩;simp[hb]at ho) h3
   obtain⟨fp,hr,hn,hl⟩:=h.slot t;simp only[I1]at hx;show gi _ (a.tmps.getD t undef) (HW st (.tmp t)) _;simp only[HW];cases hv:st.get t with
   |zU _=>rw[hv]at hx;cases hx
   |val gg cs=>
    rw[hv]at hx hr;simp only at hx;obtain⟨vs,eM,hr⟩:=hr
    have key:∀(cs:ar AC)(vs:iU)(fp:ec),(cs.map st.W2).all AC.Q9=true->(∀b∈fp,g.eo b=some (.slot t))->bD (cO C g st w) vs cs fp->
     bD (fy A' (λ_=>0) w) vs (cs.map st.W2) []:=by
     intro cs
     induction cs with
     |nil=>intro vs fp _ _ h;cases vs with
      |nil=>rfl
      |cons _ _=>exact h.elim
     |cons c cs ih=>
      intro vs fp hc hl hr
      cases vs with
      |nil=>exact hr.elim
      |cons v vs=>
       obtain⟨f1,f2,rfl,h1,h2⟩:=hr
       simp only[ei,bV,ah]at hc
       refine⟨[],[],rfl,?_,ih vs f2 hc.2 (λb hb=>hl b (bh _ hb)) h2⟩
       have hc:=hc.1
       cases c with
       |sl fl e xs=>
        cases fl with
        |own tag=>exact⟨rfl,fA t h1.1 (λb hb=>hl b (br _ hb))⟩
        |arg k=>exact⟨rfl,kg.mono (λb o u hs hu=>⟨hA b o ⟨.inl ⟨k,hs⟩,World.block_lt_of_cell? w _ hu,λhb=>h.RB hb k o hs⟩,hu⟩) h1.2⟩
        |loc ep pv=>
         cases pv with
         |none=>cases hc
         |some q=>
          obtain⟨r,tg⟩:=q
          cases r with
          |box _ _=>cases hc
          |io _=>cases hc
          |slot b j=>
           have SA:=(h1.2.2.2.2 (.slot b j) tg rfl).2
           simp only[AS.W2]at hc⊢
           cases hrg:st.fi (.slot b j)with
           |none=>rw[hrg]at hc;cases hc
           |some c0=>
            rw[hrg]at hc
            split at hc
            ·rename_i t' e' ys hc0
             split at hc
             ·rename_i ht
              subst ht
              cases hc0
              rw[aM rfl]
              obtain⟨fp2,WV,_,EH⟩:=h.slot b
              simp only[AS.fi]at hrg
              cases hgb:st.get b with
              |zU _=>rw[hgb]at hrg;cases hrg
              |val g2 Lu=>
               rw[hgb]at hrg WV
               simp only at hrg
               obtain⟨vs2,_,WV⟩:=WV
               rw[dV]at hrg
               obtain⟨v2,f3,_,U9,th⟩:=WV.get j _ hrg
               have azY:v=v2:=by have:=(U9.2 t' rfl).2;rw[SA,this]
               rw[azY]
               exact⟨rfl,fA b U9.1 (λb' ib=>EH b' (th b' ib))⟩
             ·cases hc
            ·cases hc
        |nest _ _ _ _ _ _=>cases hc
        |part _ _ _ _=>cases hc
        |fK _ _ _=>cases hc
       |int _ _=>exact⟨h1.1,rfl⟩
       |bool _=>exact⟨h1.1,rfl⟩
       |str _=>exact⟨h1.1,rfl⟩
       |fn _=>exact⟨h1.1,rfl⟩
       |kL=>cases hc
       |ptr _ _=>cases hc
       |Hy _ _ _ _ _=>cases hc
       |un=>cases hc
       |bot=>cases hc
    exact⟨vs,eM,key cs vs fp hx hl hr⟩
theorem dM.an1 (h:dM C g st a w [])(s:Nat)(kR:st.boxes[s]?=some (some cs)): ∃arr T fr fp,w.heap[g.β s]?=some (.cells arr T fr)/\tk arr fr/\bD (cO C g st w) arr.toList cs fp/\fp.Nodup/\g.β s∉fp/\(∀b∈fp,b<w.heap.size)/\g.hw (g.β s)=0/\(∀b,b=g.β s\/b∈fp->g.eo b=some (.box s))/\ ∀(w':World)(hw':Nat->Nat)(jS:Array Value)(T':TypeId)(XX:Nat×Nat)(oY:ar AC)(jg fv:ec)(A':Rg)(k:Bool),Fr (λb=>b=g.β s\/b∈fp) w w'->w'.heap[g.β s]?=some (.cells jS T' XX)->tk jS XX-> A' true=C.A k->bD (fy A' hw' w') jS.toList oY jg->oY.all (AC.EZ true)=true->jg.Nodup->g.β s∉jg->(∀b∈jg,b<w'.heap.size/\(b∈fp\/w.heap.size<=b))-> (∀b∈fv,b<w'.heap.size/\(b∈fp\/w.heap.size<=b)/\b∉jg/\b≠g.β s)-> ∃g',dM C g' (ag5 st s (sM k (st.iZ (some s)) 0 oY)) a w' []/\(∀b∈fv,g'.eo b=some (.hand 0)/\g'.hw b=hw' b)/\∀b,b<w.heap.size->g.eo b≠some (.box s)->g'.hw b=g.hw b:=by
 obtain⟨arr,T,fr,fp,kG,uG,hr,hn,xe,hl,ND,NU⟩:=h.boxes s cs kR;have Cs:s<st.boxes.length:=(aJ.1 kR).1;have U7:∀b,b=g.β s\/b∈fp->g.eo b=some (.box s):=by rintro b (rfl|hb);exact ND;exact hl b hb
 refine⟨arr,T,fr,fp,kG,uG,hr,hn,xe,λb hb=>(h.fV b _ (hl b hb)).1,NU,U7,?_⟩;intro w' hw' jS T' XX oY jg fv A' k iw PF aca hA' zx aqe Ff NF Ro Lw;let bx':ar AC:=sM k (st.iZ (some s)) 0 oY;let st':AS:=ag5 st s bx';let hw2:Nat->Nat:=λb=>if b∈jg\/b∈fv then hw' b else if b=g.β s then 0 else g.hw b
 let ams:Nat->au kb:=λb=>if b=g.β s\/b∈jg then some (.box s) else if b∈fv then some (.hand 0) else g.eo b
 let g':Gh:=⟨hw2,g.β,ams,uE g.hdr (st.iZ (some s)) jS.toList⟩
 have yW:st'.boxes=st.boxes.set s (some bx'):=by show((st.eY s (some bx')).fQ (some s)).boxes=_;rw[Hv,lU]
 have Vb:st'.slots=st.slots:=by show((st.eY s (some bx')).fQ (some s)).slots=_;rw[zN];rfl
 have PJ:st'.io=st.io:=by show((st.eY s (some bx')).fQ (some s)).io=_;rw[Qe];rfl
 have Lp:∀t,nm st t->nm st' t:=λt ht=>by have h1:nm (st.eY s (some bx')) t:=ht;exact JS (d:=some s) h1
 have WH:∀t,ic st t->ic st' t:=by rintro t ⟨c0,hc0⟩;by_cases uH:s=t;subst uH;exact⟨bx',by rw[yW];simp[Cs]⟩;exact⟨c0,by rw[yW,aZ uH];exact hc0⟩
 have ab5:∀b,b<w.heap.size->g.eo b≠some (.box s)->b∉jg/\b∉fv/\b≠g.β s:=by intro b hb X1;refine⟨λhm=>?_,λhm=>?_,λhm=>X1 (U7 b (.inl hm))⟩;rcases(Ro b hm).2 with h2|h2;exact X1 (U7 b (.inr h2));omega;rcases(Lw b hm).2.1 with h2|h2;exact X1 (U7 b (.inr h2));omega
 have nO:∀b x,x≠ .box s->g.eo b=some x->ams b=some x/\w'.heap[b]?=w.heap[b]?/\hw2 b=g.hw b:=by intro b x hx hb;have Lv:=(h.fV b x hb).1;have hnm:¬(b=g.β s\/b∈fp):=λhm=>hx (by have:=U7 b hm;rw[hb]at this;simpa using this);obtain⟨n1,n2,n3⟩:=ab5 b Lv (by rw[hb];simpa using hx);refine⟨?_,iw.block b Lv hnm,?_⟩;show(if b=g.β s\/b∈jg then _ else if b∈fv then _ else _)=_;rw[aK (by rintro(h1|h1);exact n3 h1;exact n1 h1),aK n2];exact hb;show(if b∈jg\/b∈fv then _ else if b=g.β s then _ else _)=_;rw[aK (by rintro(h1|h1);exact n1 h1;exact n2 h1),aK n3]
 have hcA:∀k b o u,C.A k b o->w.cell? ⟨b,o,none⟩=some u->w'.cell? ⟨b,o,none⟩=some u:=by intro k b o u hA hu;have hb:b<w.heap.size:=World.block_lt_of_cell? w _ hu;rw[World.cell?_of_block (a:=⟨b,o,none⟩) (iw.block b hb (λhm=>h.RB (U7 b hm) k o hA))];exact hu
 have hle:(cO C g st w).Le (cO C g' st' w'):=⟨rfl,λt ht=>⟨Lp t ht,Gy ht⟩,hcA,Nat.le_succ _,λt ht=>⟨WH t ht,rfl⟩,λhe=>absurd he (Nat.succ_ne_self _)⟩
 refine⟨g',h.step (λx=>x≠ .box s) hle h.defers ?_ ?_ ?_ ?_ (λb x hk hb=>nO b x hk hb) ?_ ?_ (λk u bv hk=>by simp at hk) (.inl ⟨by simp,PJ⟩),λb hb=>?_,λb hb X1=>?_⟩;rw[Vb];exact h.size;rw[Vb,yW,aL];exact h.bsize;refine h.frame.trans iw (λb hb hm=>?_);rcases(h.fV b _ (U7 b hm)).2 with h2|h2;omega;exact h2;intro b x hx;have E2:(if b=g.β s\/b∈jg then some (kb.box s) else if b∈fv then some (.hand 0) else g.eo b)=some x:=hx;have hz:=iw.size;have hold:b∈fp\/w.heap.size<=b->C.w0.heap.size<=b\/C.M b:=by rintro(h2|h2);exact(h.fV b _ (hl b h2)).2;exact .inl (aF h.frame.size h2)
 split at E2;rename_i hm;rcases hm with rfl|hm;have:=h.fV _ _ ND;exact⟨by omega,this.2⟩;exact⟨(Ro b hm).1,hold (Ro b hm).2⟩;split at E2;rename_i hm;exact⟨(Lw b hm).1,hold (Lw b hm).2.1⟩;have:=h.fV b x E2;exact⟨by omega,this.2⟩;intro i av hi;rw[Vb]at hi;exact .inl ⟨by simp,hi,rfl⟩;intro t Lu hb;rw[yW]at hb;by_cases uH:t=s;subst uH;rw[bt]at hb;simp only[cd,Cs]at hb;simp at hb;subst hb;refine .inr ⟨jS,T',XX,jg,PF,aca,?_,Ff,NF,λb hb=>?_,?_,?_⟩
 have:=Ov (c:=cO C g' st' w') (A':=A') (hw:=hw') (mk:=st.iZ (some t)) (k:=k) hA' 0 (vs:=jS.toList) (xs:=oY) (fp:=jg) zx aqe
  (λb hb=>by show(if b∈jg\/b∈fv then _ else _)=_;rw[aM (.inl hb)])
  (λi u hu q hq=>by
   rw[cr]at hq;have hm:=sU hq;have hm2:nm st' q:=by have h1:st.iZ (some t) i=some q:=hq;have h2:(st.eY t (some bx')).iZ (some t) i=some q:=h1;exact(sU h2).2.1
   exact⟨hm2,Gx hu hq⟩)
 exact this;show(if b=g.β t\/b∈jg then _ else _)=_;rw[aM (.inr hb)];show(if g.β t=g.β t\/g.β t∈jg then _ else _)=_;rw[aM (.inl rfl)];show(if g.β t∈jg\/g.β t∈fv then _ else if g.β t=g.β t then _ else _)=_;rw[aK (by rintro(h1|h1);exact NF h1;exact(Lw _ h1).2.2.2 rfl),aM rfl];rw[aZ (cW uH)]at hb;exact .inl ⟨by simpa using uH,hb,rfl⟩;obtain⟨_,_,h3,h4⟩:=Lw b hb;refine⟨?_,?_⟩;show(if b=g.β s\/b∈jg then _ else if b∈fv then _ else _)=_;rw[aK (by rintro(h1|h1);exact h4 h1;exact h3 h1),aM hb];show(if b∈jg\/b∈fv then _ else _)=_;rw[aM (.inr hb)];obtain⟨n1,n2,n3⟩:=ab5 b hb X1;show(if b∈jg\/b∈fv then _ else if b=g.β s then _ else _)=_;rw[aK (by rintro(h1|h1);exact n1 h1;exact n2 h1),aK n3]
theorem Zo:∀{vs:iU}{cs:ar AC}{fp:ec},bD c vs cs fp->cs.all AC.Ph=true->fp=[]
 |[],[],_,h,_=>h
 |[],_::_,_,h,_=>h.elim
 |_::_,[],_,h,_=>h.elim
 |v::vs,x::cs,fp,h,hx=>by
  obtain⟨f1,f2,rfl,h1,h2⟩:=h;simp only[bV,ah]at hx;rw[Zo h2 hx.2,bC];have hx:=hx.1;cases x with
  |sl fl e xs=>cases fl<;>first|exact h1.1|cases hx
  |int k n=>exact h1.2
  |bool b=>exact h1.2
  |str s=>exact h1.2
  |fn f=>exact h1.2
  |kL=>cases hx
  |ptr _ _=>cases hx
  |Hy _ _ _ _ _=>cases hx
  |un=>cases hx
  |bot=>cases hx
theorem dM.akW (h:dM C g st a w [])(s:Nat)(kR:st.boxes[s]?=some (some cs))(Rn:cs.all AC.Ph=true): ∀(w':World)(hw':Nat->Nat)(jS:Array Value)(T':TypeId)(XX:Nat×Nat)(oY:ar AC)(jg fv:ec)(A':Rg)(k:Bool),Fr (λb=>b=g.β s) w w'->w'.heap[g.β s]?=some (.cells jS T' XX)->tk jS XX-> A' true=C.A k->bD (fy A' hw' w') jS.toList oY jg->oY.all (AC.EZ true)=true->jg.Nodup->g.β s∉jg->(∀b∈jg,b<w'.heap.size/\w.heap.size<=b)-> (∀b∈fv,b<w'.heap.size/\w.heap.size<=b/\b∉jg/\b≠g.β s)-> ∃g',dM C g' (st.eY s (some (sM k (λ_=>none) 0 oY))) a w' []/\(∀b∈fv,g'.eo b=some (.hand 0)/\g'.hw b=hw' b)/\∀b,b<w.heap.size->g.eo b≠some (.box s)->g'.hw b=g.hw b:=by
 obtain⟨arr,T,fr,fp,kG,uG,hr,hn,xe,hl,ND,NU⟩:=h.boxes s cs kR;have ap0:fp=[]:=Zo hr Rn;subst ap0;have Cs:s<st.boxes.length:=(aJ.1 kR).1;intro w' hw' jS T' XX oY jg fv A' k iw PF aca hA' zx aqe Ff NF Ro Lw;let bx':ar AC:=sM k (λ_=>none) 0 oY;let st':AS:=st.eY s (some bx');let hw2:Nat->Nat:=λb=>if b∈jg\/b∈fv then hw' b else if b=g.β s then 0 else g.hw b
 let ams:Nat->au kb:=λb=>if b=g.β s\/b∈jg then some (.box s) else if b∈fv then some (.hand 0) else g.eo b
 let g':Gh:=⟨hw2,g.β,ams,g.hdr⟩
 have yW:st'.boxes=st.boxes.set s (some bx'):=by show(st.eY s (some bx')).boxes=_;rw[lU]
 have WH:∀t,ic st t->ic st' t:=by rintro t ⟨c0,hc0⟩;by_cases uH:s=t;subst uH;exact⟨bx',by rw[yW];simp[Cs]⟩;exact⟨c0,by rw[yW,aZ uH];exact hc0⟩
 have hold:∀b,b<w.heap.size->b∉jg/\b∉fv:=by intro b hb;refine⟨λhm=>?_,λhm=>?_⟩;have:=(Ro b hm).2;omega;have:=(Lw b hm).2.1;omega
 have Gz:∀b,b<w.heap.size->b≠g.β s->hw2 b=g.hw b:=by intro b hb Jo;show(if b∈jg\/b∈fv then _ else if b=g.β s then _ else _)=_;rw[aK (by rintro(h1|h1);exact(hold b hb).1 h1;exact(hold b hb).2 h1),aK Jo]
 have nO:∀b x,x≠ .box s->g.eo b=some x->ams b=some x/\w'.heap[b]?=w.heap[b]?/\hw2 b=g.hw b:=by intro b x hx hb;have Lv:=(h.fV b x hb).1;have Jo:b≠g.β s:=λhm=>hx (by rw[hm,ND]at hb;simpa using hb.symm);refine⟨?_,iw.block b Lv Jo,Gz b Lv Jo⟩;show(if b=g.β s\/b∈jg then _ else if b∈fv then _ else _)=_;rw[aK (by rintro(h1|h1);exact Jo h1;exact(hold b Lv).1 h1),aK (hold b Lv).2];exact hb
 have hcA:∀k b o u,C.A k b o->w.cell? ⟨b,o,none⟩=some u->w'.cell? ⟨b,o,none⟩=some u:=by intro k b o u hA hu;have hb:b<w.heap.size:=World.block_lt_of_cell? w _ hu;rw[World.cell?_of_block (a:=⟨b,o,none⟩) (iw.block b hb (λhm=>h.RB (by rw[hm];exact ND) k o hA))];exact hu
 have hle:(cO C g st w).Le (cO C g' st' w'):=by
  refine⟨rfl,λt ht=>⟨ht,rfl⟩,hcA,ba _,λt ht=>⟨WH t ht,rfl⟩,λ_ b o u ho hu=>?_⟩;have hb:b<w.heap.size:=World.block_lt_of_cell? w _ hu;have Tl:o<g.hw b:=ho;have Jo:b≠g.β s:=λe=>by rw[e,NU]at Tl;omega
  refine⟨by show o<hw2 b;rw[Gz b hb Jo];exact Tl,?_⟩;show w'.cell? ⟨b,o,none⟩=some u;rw[World.cell?_of_block (a:=⟨b,o,none⟩) (iw.block b hb Jo)];exact hu
 refine⟨g',h.step (λx=>x≠ .box s) hle h.defers h.size ?_ ?_ ?_ (λb x hk hb=>nO b x hk hb) ?_ ?_ (λk u bv hk=>by simp at hk) (.inl ⟨by simp,rfl⟩),λb hb=>?_,λb hb X1=>?_⟩;rw[yW,aL];exact h.bsize;refine h.frame.trans iw (λb hb hm=>?_);have hm:b=g.β s:=hm;subst hm;rcases(h.fV _ _ ND).2 with h2|h2;omega;exact h2;intro b x hx;have E2:(if b=g.β s\/b∈jg then some (kb.box s) else if b∈fv then some (.hand 0) else g.eo b)=some x:=hx;have hz:=iw.size;split at E2;rename_i hm;rcases hm with rfl|hm;have:=h.fV _ _ ND;exact⟨by omega,this.2⟩;exact⟨(Ro b hm).1,.inl (aF h.frame.size (Ro b hm).2)⟩;split at E2;rename_i hm;exact⟨(Lw b hm).1,.inl (aF h.frame.size (Lw b hm).2.1)⟩;have:=h.fV b x E2;exact⟨by omega,this.2⟩;intro i av hi;exact .inl ⟨by simp,hi,rfl⟩;intro t Lu hb;rw[yW]at hb;by_cases uH:t=s;subst uH;rw[bt]at hb;simp only[cd,Cs]at hb;simp at hb;subst hb;refine .inr ⟨jS,T',XX,jg,PF,aca,?_,Ff,NF,λb hb=>?_,?_,?_⟩;have:=Ov (c:=cO C g' st' w') (A':=A') (hw:=hw') (mk:=λ_=>none) (k:=k) hA' 0 (vs:=jS.toList) (xs:=oY) (fp:=jg) zx aqe (λb hb=>by show(if b∈jg\/b∈fv then _ else _)=_;rw[aM (.inl hb)]) (λi u hu q hq=>by cases hq);exact this;show(if b=g.β t\/b∈jg then _ else _)=_;rw[aM (.inr hb)];show(if g.β t=g.β t\/g.β t∈jg then _ else _)=_;rw[aM (.inl rfl)];show(if g.β t∈jg\/g.β t∈fv then _ else if g.β t=g.β t then _ else _)=_;rw[aK (by rintro(h1|h1);exact NF h1;exact(Lw _ h1).2.2.2 rfl),aM rfl];rw[aZ (cW uH)]at hb;exact .inl ⟨by simpa using uH,hb,rfl⟩;obtain⟨_,_,h3,h4⟩:=Lw b hb;refine⟨?_,?_⟩;show(if b=g.β s\/b∈jg then _ else if b∈fv then _ else _)=_;rw[aK (by rintro(h1|h1);exact h4 h1;exact h3 h1),aM hb];show(if b∈jg\/b∈fv then _ else _)=_;rw[aM (.inr hb)];exact Gz b hb (λe=>X1 (by rw[e];exact ND))
theorem apO (Ey:∀f,mz P f (Γ f)){o':Oper}(ho:o'.op=.call {callee:=.value f,args,argTypes:=ts})(hg:dM C g st a w [])(hf:st.rd f=.val false [.fn k])(kR:(Γ k).bx=true){K:AS->au R}(hk:zZ Γ o' k args.toList st K=some r)(next:Act->World->Prop)(Q:Exit->Act->World->Prop)(gm:∀st' a' w',pF C st' a' w'->K st'=some r->next a' w'):o'.wp P a w next Q:=by
 have Lw:=hg.rd f;rw[hf]at Lw;have Lw:=(eG Lw).1;unfold zZ at hk;split at hk
 ·rename_i x0 xs fJ;split at hk
  ·rename_i s hx0;split at hk
   ·rename_i cs U2;have hb:st.boxes[s]?=some (some cs):=by rw[dV]at U2;cases hq:st.boxes[s]? with|none=>rw[hq]at U2;simp at U2|some q=>rw[hq]at U2;simp at U2;rw[U2]
    cases hc:(cs.all (AC.EZ (KQ cs))&&xs.all (I1 st))with
    |false=>rw[hc]at hk;cases hk
    |true=>
     rw[hc]at hk;simp only[af]at hk;simp only[ah]at hc;cases fL:(Γ k).fn (.val true (cs.map AC.aaU)::xs.map (HW st))with
     |none=>rw[fL]at hk;cases hk
     |some y=>
      rw[fL]at hk;simp only[aa]at hk;cases hc2:(((Γ k).back y).all (AC.EZ true)&&((Γ k).av y).ajC)with
      |false=>rw[hc2]at hk;cases hk
      |true=>
       rw[hc2]at hk;simp only[af]at hk;simp only[ah]at hc2;obtain⟨⟨fn,c,TN,PG,Af⟩,_,_,tf,_⟩:=Ey k _ y fL;have tf:=tf kR _ _ rfl;have PM:=hg.rd x0;rw[hx0]at PM;have zQ:=H2 PM;obtain⟨arr,T,fr,fp,kG,uG,dY,hn,xe,iG,NU,Lq,ng⟩:=hg.an1 s hb;let A':Rg:=λq b o=>bif q then C.A (KQ cs) b o else((cO C g st w).S b o/\b<w.heap.size/\g.eo b≠some (.box s))
       have hA':∀q b' o,A' q b' o->b'<w.heap.size/\b'≠g.β s/\b'∉fp:=by
        intro q b' o hq;have key:b'<w.heap.size/\g.eo b'≠some (.box s):=by cases q with|true=>have hq:C.A (KQ cs) b' o:=hq;exact⟨iD (C.hA _ _ _ hq).1 hg.frame.size,λhb=>hg.RB hb _ o hq⟩|false=>exact hq.2
        exact⟨key.1,λe=>key.2 (Lq b' (.inl e)),λe=>key.2 (Lq b' (.inr e))⟩
       have HD:=tf A' w (g.β s) (xs.map a.eval) arr T fr g.hw fp hA' kG uG (QQ (k:=KQ cs) hc.1 dY rfl rfl rfl) hn xe iG NU (Yo hg s (λb o h=>h) xs hc.2);have azU:a.eval x0=.pointer (some ⟨g.β s,0,none⟩):=zQ;have U0:(Value.pointer (some ⟨g.β s,0,none⟩)::xs.map a.eval).toArray=args.map a.eval:=by apply eO;simp[fJ,azU]
       rw[U0]at HD;have ej:(execOp a.eval o').run P w=.ok (.enter k (args.map a.eval)) w:=by simp[execOp,ho,resolve,Lw,Deferred.ofValue,invoke,callFunc,TN,PG];simpa using Af
       unfold Oper.wp;rw[ej,Oper.upon_enter];refine HD.mono ?_;rintro e w' ⟨v,hw',fv,jS,T',XX,jg,rfl,X3,PF,aca,zx,Ff,NF,Ro,hnv,alO,iw⟩;show next (a.put o'.dst v) w'
       have tail:∀(st1:AS)(g':Gh),dM C g' st1 a w' []->(∀b∈fv,g'.eo b=some (.hand 0)/\g'.hw b=hw' b)->(∀b,b<w.heap.size->g.eo b≠some (.box s)->g'.hw b=g.hw b)->
        K ((st1.fQ o'.dst).put o'.dst (((Γ k).av y).KR st1.ep (st1.iZ o'.dst)))=some r->next (a.put o'.dst v) w':=by
        intro st1 g' oV hlv hold hk
        have hAS:∀(hd:Nat->Value)(q:Bool)(b o:Nat),A' q b o->(cO C {g' with hdr:=hd} (st1.fQ o'.dst) w').S b o:=by intro hd q b o hq;cases q with|true=>exact .inl ⟨_,hq⟩|false=>rcases hq.1 with hs|hs;exact .inl hs;exact .inr (by show o<g'.hw b;rw[hold b hq.2.1 hq.2.2];exact hs)
        have alM:∀b∈fv,g'.hw b=hw' b:=λb hb=>(hlv b hb).2
        have zx:∃hd,(∀t,nm st1 t->hd t=g'.hdr t)/\gi (cO C {g' with hdr:=hd} (st1.fQ o'.dst) w') v (((Γ k).av y).KR st1.ep (st1.iZ o'.dst)) fv:=by
         generalize (Γ k).av y=y at X3;cases y with
         |val gg cs=>obtain⟨vs,eM,hr⟩:=X3;refine⟨uE g'.hdr (st1.iZ o'.dst) vs,λt ht=>Gy ht,vs,eM,?_⟩;have:=Ht (c:=cO C {g' with hdr:=uE g'.hdr (st1.iZ o'.dst) vs} (st1.fQ o'.dst) w') (mk:=st1.iZ o'.dst) (hAS _) 0 hr alM (λi u hu t ht=>by rw[cr]at ht;exact⟨(sU ht).2.1,Gx hu ht⟩);have Ck:(cO C {g' with hdr:=uE g'.hdr (st1.iZ o'.dst) vs} (st1.fQ o'.dst) w').ep=st1.ep:=Gm;rw[Ck]at this;exact this
         |zU ts=>obtain⟨ws,hv,hr⟩:=X3;obtain⟨all,Ln⟩:=RD hr;refine⟨uE g'.hdr (st1.iZ o'.dst) all,λt ht=>Gy ht,ws,hv,?_⟩;have:=Vs (c:=cO C {g' with hdr:=uE g'.hdr (st1.iZ o'.dst) all} (st1.fQ o'.dst) w') (mk:=st1.iZ o'.dst) (hAS _) Ln 0 alM (λi u hu t ht=>by rw[cr]at ht;exact⟨(sU ht).2.1,Gx hu ht⟩);have Ck:(cO C {g' with hdr:=uE g'.hdr (st1.iZ o'.dst) all} (st1.fQ o'.dst) w').ep=st1.ep:=Gm;rw[Ck]at this;exact this
        obtain⟨hd,hhd,zx⟩:=zx
        obtain⟨g2,OJ⟩:=oV.VN o'.dst (hw':=g'.hw) (hdr':=hd) (fp:=fv) (st1:=st1.fQ o'.dst) Qe zN Hv Gm (λt ht=>⟨JS ht,hhd t ht⟩)
         (Fr.refl _ _) (λ_ _ _ _=>rfl) (λ_ _ _ ho hu=>⟨ho,hu⟩) zx hnv (λb hb=>⟨(alO b hb).1,.inl (by rw[(hlv b hb).1];rfl)⟩)
        exact gm _ _ _ ⟨g2,OJ⟩ hk
       cases hcur:((Γ k).cur&&cs.all AC.Ph)with
       |false=>rw[hcur]at hk;obtain⟨g',oV,hlv,hold⟩:=ng w' hw' jS T' XX ((Γ k).back y) jg fv A' (KQ cs) iw PF aca rfl zx hc2.1 Ff NF Ro alO;exact tail _ g' oV hlv hold hk
       |true=>rw[hcur]at hk;simp only[ah]at hcur;have ap0:fp=[]:=Zo dY hcur.2;subst ap0;obtain⟨g',oV,hlv,hold⟩:=hg.akW s hb hcur.2 w' hw' jS T' XX ((Γ k).back y) jg fv A' (KQ cs) ⟨iw.os,iw.tape,iw.output,iw.size,λb hb hm=>iw.block b hb (λhh=>hm (hh.resolve_right (by simp)))⟩ PF aca rfl zx hc2.1 Ff NF (λb hb=>⟨(Ro b hb).1,(Ro b hb).2.resolve_left (by simp)⟩) (λb hb=>⟨(alO b hb).1,(alO b hb).2.1.resolve_left (by simp),(alO b hb).2.2⟩);exact tail _ g' oV hlv hold hk
   cases hk
  cases hk
 cases hk
theorem arg_val (hA:c'.A=c.A)(hw:c'.w=c.w){v:Value}{x:AV}(h:gi c v x fp)(hx:x.Q9=true):fp=[]/\gi c' v x []:=by
 cases x with
 |zU _=>cases hx
 |val g cs=>
  obtain⟨vs,eM,h⟩:=h
  have key:∀(cs:ar AC)(vs:iU)(fp:ec),bD c vs cs fp->cs.all AC.Q9=true->fp=[]/\bD c' vs cs []:=by
   intro cs
   induction cs with
   |nil=>intro vs fp h _;cases vs with
    |nil=>exact⟨h,rfl⟩
    |cons _ _=>exact h.elim
   |cons x cs ih=>
    intro vs fp h hx
    cases vs with
    |nil=>exact h.elim
    |cons v vs=>
     obtain⟨f1,f2,rfl,h1,h2⟩:=h
     simp only[bV,ah]at hx
     obtain⟨rfl,k2⟩:=ih vs f2 h2 hx.2
     have hx:=hx.1
     have one:f1=[]/\iA c' v x []:=by
      cases x with
      |sl fl e xs=>cases fl with|arg k=>exact⟨h1.1,rfl,by rw[hA,hw];exact h1.2⟩|own _=>cases hx|loc _ _=>cases hx|nest _ _ _ _ _ _=>cases hx|part _ _ _ _=>cases hx|fK _ _ _=>cases hx
      |int _ _=>exact nv h1 rfl
      |bool _=>exact nv h1 rfl
      |str _=>exact nv h1 rfl
      |fn _=>exact nv h1 rfl
      |kL=>cases hx
      |ptr _ _=>cases hx
      |Hy _ _ _ _ _=>cases hx
      |un=>cases hx
      |bot=>cases hx
     obtain⟨rfl,k1⟩:=one
     exact⟨rfl,[],[],rfl,k1,k2⟩
  obtain⟨e,k⟩:=key cs vs fp h hx;exact⟨e,vs,eM,k⟩
theorem abb (h:dM C g st a w []):∀(xs:ar Operand),xs.all (λx=>(st.rd x).Q9)=true->oZ C.A w (xs.map a.eval) (xs.map st.rd)
 |[],_=>trivial
 |x::xs,hf=>by simp only[bV,ah]at hf;exact⟨(arg_val (c:=cO C g st w) (c':=fy C.A (λ_=>0) w) rfl rfl (h.rd x) hf.1).2,abb h xs hf.2⟩
theorem aqt (Ey:∀f,mz P f (Γ f)){o':Oper}(ho:o'.op=.call {callee:=.value f,args,argTypes:=ts})(hg:dM C g st a w [])(hf:st.rd f=.val false [.fn k])(WH:(Γ k).pr=true){K:AS->au R}(hk:ajD Γ o' k args.toList st K=some r)(next:Act->World->Prop)(Q:Exit->Act->World->Prop)(gm:∀st' a' w',pF C st' a' w'->K st'=some r->next a' w'):o'.wp P a w next Q:=by
 have Lw:=hg.rd f;rw[hf]at Lw;have Lw:=(eG Lw).1;unfold ajD at hk;split at hk
 ·rename_i d hd;split at hk
  ·rename_i M4;cases hc:args.toList.all (λx=>(st.rd x).Q9)with
   |false=>rw[hc]at hk;cases hk
   |true=>
    rw[hc]at hk;simp only[af]at hk;cases fL:(Γ k).fn (args.toList.map st.rd)with
    |none=>rw[fL]at hk;cases hk
    |some y=>
     rw[fL]at hk;simp only[aa]at hk;cases hc2:((Γ k).back y).all AC.Q9 with
     |false=>rw[hc2]at hk;cases hk
     |true=>
      rw[hc2]at hk;simp only[af]at hk;obtain⟨⟨fn,c,TN,PG,Af⟩,_,_,_,tf⟩:=Ey k _ y fL;have HD:=tf WH C.A w (args.toList.map a.eval) (λq b o hq=>iD (C.hA q b o hq).1 hg.frame.size) (abb hg _ hc);have fJ:(args.toList.map a.eval).toArray=args.map a.eval:=by apply eO;simp
      rw[fJ]at HD;have ej:(execOp a.eval o').run P w=.ok (.enter k (args.map a.eval)) w:=by simp[execOp,ho,resolve,Lw,Deferred.ofValue,invoke,callFunc,TN,PG];simpa using Af
      unfold Oper.wp;rw[ej,Oper.upon_enter];refine HD.mono ?_;rintro e w' ⟨b,arr,T,fr,hw,rfl,hb,kG,uG,dY,iw⟩;show next (a.put o'.dst (.pointer (some ⟨b,0,none⟩))) w'
      rw[dV]at M4;have Lv:=og kG;have Jo:∀b' x,g.eo b'=some x->b'≠b:=λb' x hx e=>by have:=(hg.fV b' x hx).1;omega
      have hr1:bD ⟨λb'=>if b'=b then 0 else g.hw b',λt=>if t=d then b else g.β t,C.A,g.hdr,nm st,st.ep,ic st,w'⟩ arr.toList ((Γ k).back y) []:=by
       have hv:gi (fy C.A hw w') (.agg arr.toList.toArray) (.val true ((Γ k).back y)) []:=⟨arr.toList,rfl,dY⟩
       obtain⟨_,vs,eM,h⟩:=arg_val (c:=fy C.A hw w') (c':=⟨λb'=>if b'=b then 0 else g.hw b',λt=>if t=d then b else g.β t,C.A,g.hdr,nm st,st.ep,ic st,w'⟩) rfl rfl hv hc2;have:arr.toList=vs:=by have eM:Value.agg arr.toList.toArray=.agg vs.toArray:=eM;simp only[Value.agg.injEq]at eM;simpa using congrArg Array.toList eM
       rw[this];exact h
      obtain⟨g',ON,h'⟩:=hg.aeD d (cs:=(Γ k).back y) (arr:=arr) (T:=T) (fr:=fr) (fp:=[]) (w':=w') (bnew:=b) (hw':=λb'=>if b'=b then 0 else g.hw b') (.inr ⟨hb,M4⟩) ⟨iw.os,iw.tape,iw.output,iw.size,λb' ib _=>iw.block b' ib (λm=>m)⟩ kG uG Lv (by simp) (λb' x hx _ hn=>by simp[hn]) (λb' o u ho hu=>by have ib:b'<w.heap.size:=World.block_lt_of_cell? w _ hu;exact⟨by simp[show b'≠b by omega];exact ho,F2 iw hu⟩) hr1 List.nodup_nil (by simp) (λb' ib=>by cases ib);have hdl:d<st.boxes.length:=(aJ.1 M4).1;have hq:=h'.quiet (some d) (v:=.pointer (some ⟨b,0,none⟩)) (av:=.one (.ptr d 0)) (oM ⟨by simp[cO,ON],⟨(Γ k).back y,by rw[lU];simp[hdl]⟩,rfl⟩);rw[hd];exact gm _ _ _ ⟨g',hq⟩ hk
  cases hk
 cases hk
theorem an3 (Ey:∀f,mz P f (Γ f)){o':Oper}(ho:o'.op=.call {callee:=.value f,args,argTypes:=ts})(h:pF C st a w){K:AS->au R}(hk:KS Γ o' f args.toList st K=some r)(next:Act->World->Prop)(Q:Exit->Act->World->Prop)(gm:∀st' a' w',pF C st' a' w'->K st'=some r->next a' w'):o'.wp P a w next Q:=by
 obtain⟨g,hg⟩:=h;unfold KS at hk;split at hk
 ·rename_i k hf
  have Lw:=hg.rd f
  rw[hf]at Lw
  have Lw:=(eG Lw).1
  cases kR:(Γ k).bx with
  |true=>rw[kR]at hk;exact apO Ey ho hg hf kR hk next Q gm
  |false=>
  rw[kR]at hk
  simp only[ae]at hk
  cases WH:(Γ k).pr with
  |true=>rw[WH]at hk;exact aqt Ey ho hg hf WH hk next Q gm
  |false=>
  rw[WH]at hk
  simp only[ae]at hk
  cases PJ:(Γ k).io with
  |true=>rw[PJ]at hk;exact ary Ey ho hg hf PJ hk next Q gm
  |false=>
  rw[PJ]at hk
  simp only[ae]at hk
  cases fL:(Γ k).fn (args.toList.map λx=>((st.rd x).fresh st).asArg st.ep)with
  |none=>rw[fL]at hk;cases hk
  |some y0=>
   rw[fL]at hk
   simp only[aa]at hk
   obtain⟨⟨fn,c,TN,PG,Af⟩,tf,_⟩:=Ey k _ y0 fL
   have tf:=tf PJ kR
   have hk:K ((st.fQ o'.dst).put o'.dst (((Γ k).res y0).KR st.ep (st.iZ o'.dst)))=some r:=by unfold Ez.res;cases WW:(Γ k).sel y0 with|true=>rw[WW]at hk;exact hk|false=>rw[WW]at hk;exact hk
   generalize hy0:(Γ k).res y0=y at hk tf
   have HD:=tf (λ_ b o=>(cO C g st w).S b o/\b<w.heap.size) w (args.toList.map a.eval) (λ_ _ _ h=>h.2) (abc hg args.toList)
   have fJ:(args.toList.map a.eval).toArray=args.map a.eval:=by apply eO;simp
   rw[fJ]at HD
   have ej:(execOp a.eval o').run P w=.ok (.enter k (args.map a.eval)) w:=by simp[execOp,ho,resolve,Lw,Deferred.ofValue,invoke,callFunc,TN,PG];simpa using Af
   unfold Oper.wp
   rw[ej,Oper.upon_enter]
   refine HD.mono ?_
   rintro e w' ⟨v,hw,fp,rfl,dY,JK,Hp,iw⟩
   show next (a.put o'.dst v) w'
   let hw':Nat->Nat:=λb=>if b∈fp then hw b else g.hw b
   have ZX:∀b,b<w.heap.size->b∉fp:=λb hb hm=>by have:=(Hp b hm).1;omega
   have hA':∀(hd:Nat->Value)(_:Bool)(b o:Nat),((cO C g st w).S b o/\b<w.heap.size)->(cO C {g with hw:=hw',hdr:=hd} (st.fQ o'.dst) w').S b o:=by rintro hd _ b o ⟨hs,hb⟩;rcases hs with hs|hs;exact .inl hs;exact .inr (by simp only[cO,hw',aK (ZX b hb)];exact hs)
   have zx:∃hd,(∀t,nm st t->hd t=g.hdr t)/\gi (cO C {g with hw:=hw',hdr:=hd} (st.fQ o'.dst) w') v (y.KR st.ep (st.iZ o'.dst)) fp:=by
    have alM:∀b∈fp,hw' b=hw b:=λb hb=>by simp[hw',hb]
    cases y with
    |val gg cs=>obtain⟨vs,eM,hr⟩:=dY;refine⟨uE g.hdr (st.iZ o'.dst) vs,λt ht=>Gy ht,vs,eM,?_⟩;have:=Ht (c:=cO C {g with hw:=hw',hdr:=uE g.hdr (st.iZ o'.dst) vs} (st.fQ o'.dst) w') (mk:=st.iZ o'.dst) (hA' _) 0 hr alM (λi u hu t ht=>by rw[cr]at ht;exact⟨(sU ht).2.1,Gx hu ht⟩);have Ck:(cO C {g with hw:=hw',hdr:=uE g.hdr (st.iZ o'.dst) vs} (st.fQ o'.dst) w').ep=st.ep:=Gm;rw[Ck]at this;exact this
    |zU ts=>obtain⟨ws,hv,hr⟩:=dY;obtain⟨all,Ln⟩:=RD hr;refine⟨uE g.hdr (st.iZ o'.dst) all,λt ht=>Gy ht,ws,hv,?_⟩;have:=Vs (c:=cO C {g with hw:=hw',hdr:=uE g.hdr (st.iZ o'.dst) all} (st.fQ o'.dst) w') (mk:=st.iZ o'.dst) (hA' _) Ln 0 alM (λi u hu t ht=>by rw[cr]at ht;exact⟨(sU ht).2.1,Gx hu ht⟩);have Ck:(cO C {g with hw:=hw',hdr:=uE g.hdr (st.iZ o'.dst) all} (st.fQ o'.dst) w').ep=st.ep:=Gm;rw[Ck]at this;exact this
   obtain⟨hd,hhd,zx⟩:=zx
   obtain⟨g',oV⟩:=hg.VN o'.dst (hw':=hw') (hdr':=hd) (fp:=fp) (st1:=st.fQ o'.dst) Qe zN Hv Gm (λt ht=>⟨JS ht,hhd t ht⟩)
    ⟨iw.os,iw.tape,iw.output,iw.size,λb hb _=>iw.block b hb (λm=>m)⟩ (λb x hx _=>by simp[hw',ZX b (hg.fV b x hx).1])
    (λb o u ho hu=>by have hb:b<w.heap.size:=World.block_lt_of_cell? w _ hu;exact⟨by simp[hw',ZX b hb];exact ho,F2 iw hu⟩) zx JK (λb hb=>⟨(Hp b hb).2,.inr (Hp b hb).1⟩)
   exact gm _ _ _ ⟨g',oV⟩ hk
 cases hk
end Go.Dn
