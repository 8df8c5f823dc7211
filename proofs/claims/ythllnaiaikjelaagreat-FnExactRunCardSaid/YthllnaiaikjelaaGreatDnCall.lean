import Derived.Test.YthllnaiaikjelaaGreatDnOps8
/- A call by value: what a callee promises, and what the caller makes of it. -/
namespace Go.Dn
open Go.RowKit
variable {P:Program} {C:Ctx} {st:AS} {a:Act} {w:World} {R:Type} {r:R}
variable {x:AC} {args:Array Operand} {ts:Array TypeId} {Γ:Cr} {g:Gh} {k:Nat} {hw hw':Nat->Nat} {hdr:Nat->Value} {f:Operand} {c c':RC} {A:Rg} {cs:ar AC} {d:au Nat} {fp:ei}
def fA (A:Rg)(hw:Nat->Nat)(w:World):RC:=⟨hw,λ_=>0,A,λ_=>undef,λ_=>False,0,λ_=>False,w⟩
def pc (A:Rg)(w:World):iW->ar AV->Prop
 |[],[]=>True
 |v::vs,x::xs=>gj (fA A (λ_=>0) w) v x []/\pc A w vs xs
 |_,_=>False
def azH (P:Program)(f:Nat)(F:EI)(y:F.R)(g:Bool)(cs:ar AC)(rest:ar AV):Prop:=
 ∀(A:Rg)(w:World)(v0:Value)(vs:iW)(hw:Nat->Nat)(fp:ei),(∀k b o,A k b o->b<w.heap.size/\b∉fp)->gj (fA A hw w) v0 (.val g cs) fp->fp.Nodup->(∀b∈fp,b<w.heap.size)->pc A w vs rest->
  Calls P f (v0::vs).toArray w λe w'=>∃v hw' fr ji,e=.returned v/\gj (fA A hw' w') v (F.av y) fr/\gj (fA A hw' w') v0 (.val g (F.back y)) ji/\ji.Nodup/\
   (∀b∈ji,b<w'.heap.size/\(b∈fp\/w.heap.size<=b))/\Fr (λb=>b∈fp) w w'
def ari (P:Program)(f:Nat)(F:EI)(y:F.R)(cs:ar AC)(rest:ar AV):Prop:=
 ∀(A:Rg)(w:World)(b:Nat)(vs:iW)(arr:Array Value)(T:TypeId)(fr:Nat×Nat)(hw:Nat->Nat)(fp:ei),(∀k b' o,A k b' o->b'<w.heap.size/\b'≠b/\b'∉fp)->
  w.heap[b]?=some (.cells arr T fr)->tp arr fr->bE (fA A hw w) arr.toList cs fp->fp.Nodup->b∉fp->(∀b'∈fp,b'<w.heap.size)->hw b=0->pc A w vs rest->
  Calls P f (.pointer (some ⟨b,0,none⟩)::vs).toArray w λe w'=>∃v hw' fv jV T' Yh ji,e=.returned v/\gj (fA A hw' w') v (F.av y) fv/\w'.heap[b]?=some (.cells jV T' Yh)/\tp jV Yh/\
   bE (fA A hw' w') jV.toList (F.back y) ji/\ji.Nodup/\b∉ji/\(∀b'∈ji,b'<w'.heap.size/\(b'∈fp\/w.heap.size<=b'))/\fv.Nodup/\(∀b'∈fv,b'<w'.heap.size/\(b'∈fp\/w.heap.size<=b')/\b'∉ji/\b'≠b)/\Fr (λb'=>b'=b\/b'∈fp) w w'
def apI (P:Program)(f:Nat)(F:EI)(y:F.R)(xs:ar AV):Prop:=
 ∀(A:Rg)(w:World)(vs:iW),(∀k b o,A k b o->b<w.heap.size)->pc A w vs xs->
  Calls P f vs.toArray w λe w'=>∃b arr T fr hw,e=.returned (.pointer (some ⟨b,0,none⟩))/\w.heap.size<=b/\w'.heap[b]?=some (.cells arr T fr)/\tp arr fr/\bE (fA A hw w') arr.toList (F.back y) []/\Fr (λ_=>False) w w'
def mD (P:Program)(f:Nat)(F:EI):Prop:=
 ∀(xs:ar AV)(y:F.R),F.fn xs=some y->
  (∃fn c,P.funcs[f]?=some fn/\fn.body=some c/\(fn.name== "runtime.NumGoroutine")=false)/\
  (F.io=false->F.bx=false->∀(A:Rg)(w:World)(vs:iW),(∀k b o,A k b o->b<w.heap.size)->pc A w vs xs->
    Calls P f vs.toArray w λe w'=>∃v hw fp,e=.returned v/\gj (fA A hw w') v (F.res y) fp/\fp.Nodup/\(∀b∈fp,w.heap.size<=b/\b<w'.heap.size)/\Fr (λ_=>False) w w')/\
  (F.io=true->∀g cs rest,xs=.val g cs::rest->azH P f F y g cs rest)/\
  (F.bx=true->∀cs rest,xs=.val true cs::rest->ari P f F y cs rest)/\
  (F.pr=true->apI P f F y xs)
theorem nA {v:Value}(h:iD c v x fp)(hf:x.hY=true):fp=[]/\iD c' v x []:=by cases x with|int k n=>exact⟨h.2,h.1,rfl⟩|bool b=>exact⟨h.2,h.1,rfl⟩|str s=>exact⟨h.2,h.1,rfl⟩|fn f=>exact⟨h.2,h.1,rfl⟩|_=>cases hf
theorem OW {c':RC}:∀{vs:iW}{xs:ar AC}{fp:ei},bE c vs xs fp->xs.all AC.hY=true->fp=[]/\bE c' vs xs []
 |[],[],_,h,_=>⟨h,rfl⟩
 |_::_,_::_,_,h,hf=>by obtain⟨f1,f2,rfl,h1,h2⟩:=h;simp only[bV,ah]at hf;obtain⟨rfl,k1⟩:=nA (c':=c') h1 hf.1;obtain⟨rfl,k2⟩:=OW (c':=c') h2 hf.2;exact⟨rfl,[],[],rfl,k1,k2⟩
 |[],_::_,_,h,_=>h.elim
 |_::_,[],_,h,_=>h.elim
theorem ab8:∀{ws:iW}{ts:ar (Bool×ar AC)}{fp:ei},gj.uy c ws ts fp->(ts.all λx=>x.2.all AC.hY)=true->gj.uy c' ws ts []
 |[],[],_,_,_=>rfl
 |_::_,_::_,_,h,hf=>by obtain⟨f1,f2,rfl,⟨vs,hv,h1⟩,h2⟩:=h;simp only[bV,ah]at hf;exact⟨[],[],rfl,⟨vs,hv,(OW h1 hf.1).2⟩,ab8 h2 hf.2⟩
 |[],_::_,_,h,_=>h.elim
 |_::_,[],_,h,_=>h.elim
theorem I7 {v:Value}{x:AV}(h:gj c v x fp)(hf:x.hY=true):gj c' v x []:=by
 cases x with
 |val g cs=>obtain⟨vs,hv,h⟩:=h;exact⟨vs,hv,(OW h hf).2⟩
 |Af ts=>obtain⟨ws,hv,h⟩:=h;exact⟨ws,hv,ab8 h hf⟩
theorem Wf:∀(os ss:ar AC){r:ar AC}{vs us:iW}{f:ei},oS os ss=some r->bE c vs os []->bE c us ss f->bE (fA A c.hw c.w) vs r f:=by
 intro os;induction os with
 |nil=>intro ss r vs us f h hv hu;cases ss with|cons _ _=>simp[oS]at h|nil=>simp[oS]at h;subst h;cases vs with|cons _ _=>exact hv.elim|nil=>cases us with|cons _ _=>exact hu.elim|nil=>exact hu
 |cons o os ih=>
  intro ss r vs us f h hv hu;cases vs with
  |nil=>exact hv.elim
  |cons v vs=>
   cases ss with
   |nil=>unfold oS at h;split at h<;>first|contradiction|cases h
   |cons s ss=>
    cases us with
    |nil=>exact hu.elim
    |cons u us=>
     obtain⟨g1,g2,hg,hv1,SX⟩:=hv;have e1:g1=[]:=by have:=hg.symm;simp at this;exact this.1
     have e2:g2=[]:=by have:=hg.symm;simp at this;exact this.2
     subst e1;subst e2;obtain⟨f1,f2,rfl,hu1,hu2⟩:=hu;have fl:∀{x:AC}{r'},x.hY=true->s.hY=true->o=x->oS os ss=some r'->r=x::r'->bE (fA A c.hw c.w) (v::vs) r (f1++f2):=by rintro x r' hx hs rfl hr rfl;obtain⟨rfl,_⟩:=nA (c':=c) hu1 hs;exact⟨[],f2,rfl,(nA hv1 hx).2,ih ss hr SX hu2⟩
     unfold oS at h;split at h;contradiction;rename_i ep rt t e0 xs0 os' t' e xs ss' h1 h2;injection h1 with h1 Vk;subst h1;subst Vk;injection h2 with h2 h2';subst h2;subst h2';cases ht:(t'==t)with
     |false=>rw[ht]at h;cases h
     |true=>
      have:t'=t:=by simpa using ht
      subst this;rw[ht]at h;simp only[af]at h;obtain⟨r',hr,h⟩:=aY.1 h;cases h;have hv':=(hv1.2.2.2.2 rt t' rfl).2;have Yp:=(hu1.2 t' rfl).2;have huv:u=v:=Yp.trans hv'.symm;subst huv;exact⟨f1,f2,rfl,⟨hu1.1,by simp⟩,ih _ hr SX hu2⟩
     rename_i k n os' k' n' ss' h1 h2;injection h1 with h1 Vk;subst Vk;injection h2 with h2 h2';subst h2;subst h2';obtain⟨r',hr,h⟩:=aY.1 h;cases h;exact fl (x:=.int k n) rfl rfl h1 hr rfl;rename_i k os' k' ss' h1 h2;injection h1 with h1 Vk;subst Vk;injection h2 with h2 h2';subst h2;subst h2';obtain⟨r',hr,h⟩:=aY.1 h;cases h;exact fl (x:=.bool k) rfl rfl h1 hr rfl;rename_i k os' k' ss' h1 h2;injection h1 with h1 Vk;subst Vk;injection h2 with h2 h2';subst h2;subst h2';obtain⟨r',hr,h⟩:=aY.1 h;cases h;exact fl (x:=.str k) rfl rfl h1 hr rfl;cases h
theorem adJ (hle:c.Le c'):∀(os ss bs:ar AC){seg:ar AC}{vs us:iW}{f f':ei},Io os ss bs=some seg->bE c vs os []->bE c us ss f-> bE (fA A hw' c'.w) vs bs f'->(∀b∈f',c'.hw b=hw' b)->bE c' us seg f':=by
 intro os;induction os with
 |nil=>
  intro ss bs seg vs us f f' h hv hu hb _;unfold Io at h;split at h;cases h;cases us with|cons _ _=>exact hu.elim|nil=>cases vs with|cons _ _=>exact hv.elim|nil=>exact hb
  all_goals first|contradiction|cases h
 |cons o os ih=>
  intro ss bs seg vs us f f' h hv hu hb hh;unfold Io at h;split at h;contradiction;rename_i ep rt t' e0 xs0 os' t e1 xs1 ss' tg e ys bs' h1;injection h1 with h1 Vk;subst h1;subst Vk;cases ht:(t==t')with
  |false=>rw[ht]at h;cases h
  |true=>
   have:t=t':=by simpa using ht
   subst this;rw[ht]at h;simp only[af]at h;obtain⟨r',hr,h⟩:=aY.1 h;cases h;cases vs with
   |nil=>exact hv.elim
   |cons v vs=>
    cases us with
    |nil=>exact hu.elim
    |cons u us=>
     obtain⟨g1,g2,hg,hv1,SX⟩:=hv;have e1:g1=[]:=by have:=hg.symm;simp at this;exact this.1
     have e2:g2=[]:=by have:=hg.symm;simp at this;exact this.2
     subst e1;subst e2;obtain⟨f1,f2,rfl,hu1,hu2⟩:=hu;obtain⟨f1',f2',rfl,hb1,LI⟩:=hb;have hv':=(hv1.2.2.2.2 rt t rfl).2;have Yp:=hu1.2 t rfl;have huv:u=v:=Yp.2.trans hv'.symm;refine⟨f1',f2',rfl,⟨?_,λq hq=>?_⟩,ih _ _ hr SX hu2 LI (λb hb=>hh b (bh _ hb))⟩;rw[huv];exact eU.mono hb1.1 (λb hb=>⟨rfl,hh b (br _ hb)⟩);cases hq;exact⟨(hle.hdr t Yp.1).1,by rw[(hle.hdr t Yp.1).2];exact Yp.2⟩
  all_goals first
   |cases h
   |(rename_i h1
     injection h1 with h1 Vk;subst Vk
     obtain⟨r',hr,h⟩:=aY.1 h
     cases h
     cases vs with
     |nil=>exact hv.elim
     |cons v vs=>
      cases us with
      |nil=>exact hu.elim
      |cons u us=>
       obtain⟨g1,g2,hg,hv1,SX⟩:=hv
       have e1:g1=[]:=by have:=hg.symm;simp at this;exact this.1
       have e2:g2=[]:=by have:=hg.symm;simp at this;exact this.2
       subst e1;subst e2
       obtain⟨f1,f2,rfl,hu1,hu2⟩:=hu
       obtain⟨f1',f2',rfl,hb1,LI⟩:=hb
       have k1:=(nA (c':=c) hb1 rfl).1
       subst k1
       exact⟨[],f2',rfl,(nA hu1 rfl).2,ih _ _ hr SX hu2 LI (λb hb=>hh b (bh _ hb))⟩)
theorem aeW {v:Value}(h:iD c v x fp):iD (fA (λ_ b o=>c.S b o/\b<c.w.heap.size) (λ_=>0) c.w) v (x.asArg c.ep) []:=by
 have hS:∀{e:CT}{xs:ar e.D},km c.w c.S (.sl e) [v] xs->km c.w (λb o=>c.S b o/\b<c.w.heap.size) (.sl e) [v] xs:=λhr=>
  km.mono (λb o u hs hu=>⟨⟨hs,World.block_lt_of_cell? c.w _ hu⟩,hu⟩) hr
 cases x with|int k n=>exact⟨h.1,rfl⟩|bool b=>exact⟨h.1,rfl⟩|str s=>exact⟨h.1,rfl⟩|kS=>exact⟨h.1,rfl⟩|fn f=>exact⟨h.1,rfl⟩|ptr s off=>exact rfl|un=>exact rfl|bot=>exact rfl|HM fl e y i off=>exact rfl|sl fl e xs=>cases fl with|nest _ _ _ _ _ _=>exact rfl|part _ _ _ _=>exact rfl|fL _ _ _=>exact rfl|own t=>exact⟨rfl,hS (eU.rep (λb o ho=> .inr ho) h.1)⟩|arg k=>exact⟨rfl,hS (km.mono (λb o u hs hu=>⟨.inl ⟨k,hs⟩,hu⟩) h.2)⟩|loc ep pv=>simp only[AC.asArg];split;rename_i he;exact⟨rfl,hS (h.2.2.2.1 (by simpa using he))⟩;exact rfl
theorem SH:∀{vs:iW}{xs:ar AC}{fp:ei},bE c vs xs fp->bE (fA (λ_ b o=>c.S b o/\b<c.w.heap.size) (λ_=>0) c.w) vs (xs.map (AC.asArg c.ep)) []
 |[],[],_,_=>rfl
 |_::_,_::_,_,h=>by obtain⟨f1,f2,rfl,h1,h2⟩:=h;exact⟨[],[],rfl,aeW h1,SH h2⟩
 |[],_::_,_,h=>h.elim
 |_::_,[],_,h=>h.elim
theorem aiH {v:Value}{x:AV}(h:gj c v x fp):gj (fA (λ_ b o=>c.S b o/\b<c.w.heap.size) (λ_=>0) c.w) v (x.asArg c.ep) []:=by
 cases x with
 |val g cs=>obtain⟨vs,hv,h⟩:=h;exact⟨vs,hv,SH h⟩
 |Af ts=>exact gj.bot _ _
theorem aby (h:dN C g st a w []):∀(args:ar Operand),
 pc (λ_ b o=>(cP C g st w).S b o/\b<w.heap.size) w (args.map a.eval) (args.map λx=>((st.rd x).fresh st).asArg st.ep)
 |[]=>trivial
 |x::xs=>⟨aiH (c:=cP C g st w) (h.fresh (h.rd x)),aby h xs⟩
theorem aeX {A':Rg}{v:Value}{tag:au Nat}(h:iD (fA A' hw c.w) v x fp)(hA:∀k b o,A' k b o->c.S b o)(GL:∀b∈fp,c.hw b=hw b)(ht:∀t,tag=some t->c.iss t/\v=c.hdr t):iD c v (x.K9 c.ep tag) fp:=by
 cases x with
 |int k n=>exact h
 |bool b=>exact h
 |str s=>exact h
 |kS=>exact h
 |fn f=>exact h
 |ptr s off=>exact h.2.2
 |un=>exact h
 |bot=>exact h
 |HM fl e y i off=>cases fl with|own t=>exact h.elim|nest _ _ _ _ _ _=>exact h.elim|part _ _ _ _=>exact h.elim|fL _ _ _=>exact h.elim|arg _=>exact h.1|loc ep pv=>exact h.1
 |sl fl e xs=>
  cases fl with
  |nest _ _ _ _ _ _=>exact h.1
  |part _ _ _ _=>exact h.1
  |fL _ _ _=>obtain⟨_,⟨k,hk,h3⟩,_⟩:=h;exact⟨λq hq=>(by cases hq),⟨k,hk,h3.mono (λb hb=>⟨rfl,GL b hb⟩)⟩,by simp⟩
  |own t=>exact⟨eU.mono h.1 (λb hb=>⟨rfl,GL b hb⟩),ht⟩
  |loc ep pv=>exact h.1
  |arg _=>have hr:km c.w c.S (.sl e) [v] xs:=km.mono (λb o u hs hu=>⟨hA _ b o hs,hu⟩) h.2;refine⟨h.1,ba _,?_,λ_=>hr,by simp⟩;obtain⟨u,hu,k⟩:=hr;simp at hu;subst hu;rcases k with⟨⟨ad,rfl⟩,rfl⟩|⟨b,o,cap,rfl,_⟩;exact⟨_,_,_,rfl,rfl⟩;exact⟨_,_,_,rfl,rfl⟩
theorem HH {A':Rg}{mk:Nat->au Nat}(hA:∀k b o,A' k b o->c.S b o):∀{vs:iW}{xs:ar AC}{fp:ei}(j:Nat),bE (fA A' hw c.w) vs xs fp->(∀b∈fp,c.hw b=hw b)->
 (∀i v,vs[i]?=some v->∀t,mk (j+i)=some t->c.iss t/\v=c.hdr t)->bE c vs (QI c.ep mk j xs) fp
 |[],[],_,_,h,_,_=>h
 |v::_,_::_,_,j,h,hh,hm=>by obtain⟨f1,f2,rfl,h1,h2⟩:=h;exact⟨f1,f2,rfl,aeX h1 hA (λb hb=>hh b (br _ hb)) (λt ht=>hm 0 v rfl t ht),HH hA (j+1) h2 (λb hb=>hh b (bh _ hb)) (λi u hu t ht=>hm (i+1) u (by simpa using hu) t (by rwa[show j+(i+1)=j+1+i by omega]))⟩
 |[],_::_,_,_,h,_,_=>h.elim
 |_::_,[],_,_,h,_,_=>h.elim
inductive Leaves (A:Rg) (hw:Nat->Nat) (w:World):List Value->List (Bool×List AC)->List Nat->List Value->Prop
 |nil:Leaves A hw w [] [] [] []
 |cons {v:Value} {vs:List Value} {g:Bool} {cs:List AC} {ts:List (Bool×List AC)} {f1 f2:List Nat} {us all:List Value} (eP:Cut g v us) (hr:bE (fA A hw w) us cs f1) (h:Leaves A hw w vs ts f2 all):
  Leaves A hw w (v::vs) ((g,cs)::ts) (f1++f2) (us++all)
theorem RY {w:World}:∀{ws:iW}{ts:ar (Bool×ar AC)}{fp:ei},gj.uy (fA A hw w) ws ts fp->∃all,Leaves A hw w ws ts fp all
 |[],[],_,h=>by cases h;exact⟨[],.nil⟩
 |_::_,(g,cs)::_,_,h=>by obtain⟨f1,f2,rfl,⟨us,eP,hr⟩,h2⟩:=h;obtain⟨all,LH⟩:=RY h2;exact⟨us++all,.cons eP hr LH⟩
 |[],_::_,_,h=>h.elim
 |_::_,[],_,h=>h.elim
theorem VM {A':Rg}{mk:Nat->au Nat}(hA:∀k b o,A' k b o->c.S b o){ws:iW}{ts:ar (Bool×ar AC)}{all:iW}(h:Leaves A' hw c.w ws ts fp all): ∀j,(∀b∈fp,c.hw b=hw b)->(∀i v,all[i]?=some v->∀t,mk (j+i)=some t->c.iss t/\v=c.hdr t)->gj.uy c ws (agA c.ep mk j ts) fp:=by induction h with|nil=>intro j _ _;exact rfl| @cons v vs g cs ts f1 f2 us all eP hr h ih=>intro j hh hm;have hl:=hr.length;refine⟨f1,f2,rfl,⟨us,eP,HH hA j hr (λb hb=>hh b (br _ hb)) (λi u hu t ht=>?_)⟩,ih _ (λb hb=>hh b (bh _ hb)) (λi u hu t ht=>?_)⟩;exact hm i u (by rw[bI (aJ.1 hu).1];exact hu) t ht;have hl':us.length=cs.length:=hl;refine hm (us.length+i) u (by rw[bw (by omega)];simpa using hu) t ?_;rw[<-fZ,hl'];exact ht
def uG (hdr:Nat->Value)(mk:Nat->au Nat)(all:iW):Nat->Value:=λu=>if mk (u/3%4096)=some u then(all[u/3%4096]?).getD undef else hdr u
theorem GK {all:iW}{t:Nat}(h:nr st t):uG hdr (st.jb d) all t=hdr t:=by unfold uG;rw[aK];intro e;exact(sX e).1 h
theorem GJ {all:iW}{i t:Nat}{v:Value}(hv:all[i]?=some v)(h:st.jb d i=some t):v=uG hdr (st.jb d) all t:=by
 obtain⟨_,_,d',rfl,ht,hi⟩:=sX h;have aoO:t/3%4096=i:=by rw[ht,Q7];omega
 unfold uG;rw[aoO,aM h,hv];rfl
theorem dN.Ue (h:dN C g st a w [])(o:ki)(SV:¬dq (some o)){f1 f2 f3:ei}(hn:(f1++f2++f3).Nodup)(hl:∀b∈f1++f2++f3,g.eC b=some o){w':World}{st':AS}{kX:ei}(Cw:st'.ep=st.ep+1)(LJ:st'.iss=st.iss)(uH:∀s,ij st s->ij st' s)(HE:kX.Nodup)(qZ:∀b∈kX,b<w'.heap.size/\(b∈f2\/w.heap.size<=b))(iA:Fr (λb=>b∈f2) w w')(GL:∀b,b<w.heap.size->b∉f2->hw' b=g.hw b): (cP C g st w).Le (cP C (g.wrote o (f1++kX++f3) hw') st' w')/\(f1++kX++f3).Nodup/\ (∀b∈f1++kX++f3,(g.wrote o (f1++kX++f3) hw').eC b=some o)/\ (∀b∈f1++f3,w'.heap[b]?=w.heap[b]?/\hw' b=g.hw b)/\ (∀b x,¬dq (some x)->x≠o->g.eC b=some x->(g.wrote o (f1++kX++f3) hw').eC b=some x/\w'.heap[b]?=w.heap[b]?/\hw' b=g.hw b)/\ (∀b,g.eC b=some o->b∉f1++f2++f3->(g.wrote o (f1++kX++f3) hw').eC b=some o/\w'.heap[b]?=w.heap[b]?/\hw' b=g.hw b)/\ Fr C.M C.w0 w'/\(∀b x,(g.wrote o (f1++kX++f3) hw').eC b=some x->b<w'.heap.size/\(C.w0.heap.size<=b\/C.M b)):=by
 have Fq:=hn;rw[aX]at Fq;have n1:=aG.1 Fq;have n2:=aG.1 n1.2.1;have EP:∀b∈f1++f3,b∉f2:=by intro b hb h2;rcases aA.1 hb with hb|hb;exact n1.2.2 b hb b (br _ h2) rfl;exact n2.2.2 b h2 b hb rfl
 have hcA:∀k b o u,C.A k b o->w.cell? ⟨b,o,none⟩=some u->w'.cell? ⟨b,o,none⟩=some u:=by intro k b o u hA hu;have hb:b<w.heap.size:=World.block_lt_of_cell? w _ hu;have PA:¬(b∈f2):=λhm=>h.RX (hl b (by simp[hm])) k o hA;rw[World.cell?_of_block (a:=⟨b,o,none⟩) (iA.block b hb PA)];exact hu
 have hle:(cP C g st w).Le (cP C (g.wrote o (f1++kX++f3) hw') st' w'):=⟨rfl,λt ht=>⟨by show nr st' t;have ht':nr st t:=ht;simpa[nr,LJ]using ht',rfl⟩,hcA,by show st.ep<=st'.ep;omega,λs hs=>⟨uH s hs,rfl⟩,λhe=>absurd he (by show st'.ep≠st.ep;omega)⟩
 have nR:∀b x,g.eC b=some x->b∉f2->w'.heap[b]?=w.heap[b]?/\hw' b=g.hw b:=by intro b x hb hm;exact⟨iA.block b (h.fW b _ hb).1 hm,GL b (h.fW b _ hb).1 hm⟩
 have hd1:∀b∈f1++f3,b∉kX:=by intro b hb hm;rcases(qZ b hm).2 with h2|h2;exact EP b hb h2;have:=(h.fW b _ (hl b (by rcases aA.1 hb with hb|hb<;>simp[hb]))).1;omega
 refine⟨hle,?_,?_,?_,?_,?_,?_,?_⟩;rw[aX];refine aG.2 ⟨n1.1,aG.2 ⟨HE,n2.2.1,?_⟩,?_⟩;rintro b hb c hc rfl;exact hd1 b (by simp[hc]) hb;rintro b hb c hc rfl;rcases aA.1 hc with hc|hc;exact hd1 b (by simp[hb]) hc;exact n1.2.2 b hb b (bh _ hc) rfl;intro b hb;show(if b∈f1++kX++f3 then _ else _)=_;rw[aM hb];intro b hb;exact nR b o (hl b (by rcases aA.1 hb with hb|hb<;>simp[hb])) (EP b hb);intro b x hh hxo hb;have hm2:b∉f2:=λhm=>hxo (by have:=hl b (by simp[hm]);rw[hb]at this;simpa using this);refine⟨?_,nR b x hb hm2⟩;show(if b∈f1++kX++f3 then _ else if dq (g.eC b) then none else g.eC b)=_;have aag:b∉f1++kX++f3:=by intro hm;simp only[aA]at hm;rcases hm with(hm|hm)|hm;exact hxo (by have:=hl b (by simp[hm]);rw[hb]at this;simpa using this);rcases(qZ b hm).2 with h2|h2;exact hm2 h2;have:=(h.fW b _ hb).1;omega;exact hxo (by have:=hl b (by simp[hm]);rw[hb]at this;simpa using this)
 rw[aK aag,aK (by rw[hb];exact hh),hb];intro b hb hm;have hm2:b∉f2:=λk=>hm (by simp[k]);refine⟨?_,nR b o hb hm2⟩;show(if b∈f1++kX++f3 then _ else if dq (g.eC b) then none else g.eC b)=_;rw[aK (c:=dq (g.eC b)) (by rw[hb];exact SV),hb];split<;>rfl;refine h.frame.trans iA (λb hb hm=>?_);rcases(h.fW b o (hl b (by simp[hm]))).2 with h2|h2;omega;exact h2;intro b x hx;have Fe:(if b∈f1++kX++f3 then some o else if dq (g.eC b) then none else g.eC b)=some x:=hx;have hz:=iA.size;have old:∀y,g.eC b=some y->b<w'.heap.size/\(C.w0.heap.size<=b\/C.M b):=λy hy=>⟨iH (h.fW b y hy).1 hz,(h.fW b y hy).2⟩
 split at Fe;rename_i hm;simp only[aA]at hm;rcases hm with(hm|hm)|hm;exact old o (hl b (by simp[hm]));rcases(qZ b hm).2 with h2|h2;exact old o (hl b (by simp[h2]));exact⟨(qZ b hm).1,.inl (aF h.frame.size h2)⟩;exact old o (hl b (by simp[hm]));split at Fe;cases Fe;exact old x Fe
theorem Pn {vs us:iW}{seg:ar AC}{f1 f2 f3:ei}{off n:Nat}(Xg:us=(vs.drop off).take n)(hln:us.length=n)(r1:bE c' (vs.take off) (cs.take off) f1)(r2:bE c' us seg f2)(r3:bE c' (vs.drop (off+n)) (cs.drop (off+n)) f3): bE c' vs (dw cs off seg) (f1++f2++f3):=by
 have ER:=r2.length;have e:vs=vs.take off++us++vs.drop (off+n):=by rw[Xg,aX,<-eO,cK,cK]
 rw[e,dw,show seg.length=n by omega];exact bE.append (bE.append r1 r2) r3
theorem dN.amP (h:dN C g st a w [])(r:lW){IW:ar AC}(fB:st.yb r=some IW)(off n:Nat)(aad:((IW.drop off).take n).length=n): ∃us f2,bE (cP C g st w) us ((IW.drop off).take n) f2/\f2.Nodup/\(∀b∈f2,b<w.heap.size/\∀k o,¬C.A k b o)/\ ∀(w':World)(hw':Nat->Nat)(seg:ar AC)(kX:ei),kX.Nodup->(∀b∈kX,b<w'.heap.size/\(b∈f2\/w.heap.size<=b))->Fr (λb=>b∈f2) w w'-> (∀b,b<w.heap.size->b∉f2->hw' b=g.hw b)->(∀c',(cP C g st w).Le c'->c'.w=w'->c'.hw=hw'->bE c' us seg kX)-> ∃g',dN C g' {st.tn r (dw IW off seg)with ep:=st.ep+1} a w' []:=by
 have core:∀(o:ki),¬dq (some o)->∀{vs:iW}{fp:ei},bE (cP C g st w) vs IW fp->fp.Nodup->(∀b∈fp,g.eC b=some o)->
  ∃us f1 f2 f3,fp=f1++f2++f3/\bE (cP C g st w) us ((IW.drop off).take n) f2/\f2.Nodup/\(∀b∈f2,b<w.heap.size/\∀k o,¬C.A k b o)/\
   ∀(w':World)(hw':Nat->Nat)(st':AS)(seg:ar AC)(kX:ei),st'.ep=st.ep+1->st'.iss=st.iss->(∀s,ij st s->ij st' s)->kX.Nodup->(∀b∈kX,b<w'.heap.size/\(b∈f2\/w.heap.size<=b))->Fr (λb=>b∈f2) w w'->
    (∀b,b<w.heap.size->b∉f2->hw' b=g.hw b)->(∀c',(cP C g st w).Le c'->c'.w=w'->c'.hw=hw'->bE c' us seg kX)->
    bE (cP C (g.wrote o (f1++kX++f3) hw') st' w') vs (dw IW off seg) (f1++kX++f3):=by
  intro o SV vs fp hr hn hl
  obtain⟨f1,f2,f3,rfl,r1,r2,r3⟩:=hr.mid off n
  have Fq:=hn
  rw[aX]at Fq
  have n2:=aG.1 (aG.1 Fq).2.1
  refine⟨_,f1,f2,f3,rfl,r2,n2.1,λb hb=>⟨(h.fW b o (hl b (by simp[hb]))).1,λk q=>h.RX (hl b (by simp[hb])) k q⟩,?_⟩
  intro w' hw' st' seg kX Cw LJ uH HE qZ iA GL Mo
  obtain⟨hle,_,_,hk,_⟩:=h.Ue o SV hn hl Cw LJ uH HE qZ iA GL
  exact Pn rfl (by rw[r2.length];exact aad) (r1.mono hle λb hb=>hk b (by simp[hb])) (Mo _ hle rfl rfl) (r3.mono hle λb hb=>hk b (by simp[hb]))
 cases r with
 |slot s j=>
  simp only[AS.yb]at fB;cases hg:st.get s with
  |Af ts=>rw[hg]at fB;cases fB
  |val gg cs=>
   rw[hg]at fB;cases fB;have aAN:s<st.slots.length\/¬s<st.slots.length:=bS s st.slots.length|>.imp id Nat.not_lt.2;obtain⟨fp,hr,hn,hl⟩:=h.slot s;rw[hg]at hr;obtain⟨vs,eP,hr⟩:=hr;obtain⟨us,f1,f2,f3,rfl,Xg,Dc,LI,nk⟩:=core (.slot s) (by simp[fV]) hr hn hl;refine⟨us,f2,Xg,Dc,LI,?_⟩;intro w' hw' seg kX HE qZ iA GL Mo;let st':AS:={st.tn (.slot s j) (dw IW off seg)with ep:=st.ep+1}
   have lN:st'={st with slots:=st.slots.set s (.val gg (dw IW off seg)),ep:=st.ep+1}:=by show({st.tn (.slot s j) (dw IW off seg)with ep:=st.ep+1}:AS)=_;simp only[AS.tn,hg,AS.put,fE]
   have W1:∀t,ij st t->ij st' t:=λt ht=>by rw[lN];exact ht
   obtain⟨hle,O2,hll,_,hk1,_,O0,Ml⟩:=h.Ue (.slot s) (by simp[fV]) hn hl (st':=st') rfl (by rw[lN]) W1 HE qZ iA GL;have ee:=nk w' hw' st' seg kX rfl (by rw[lN]) W1 HE qZ iA GL Mo;refine⟨_,h.step (λx=>¬dq (some x)/\x≠ .slot s) hle h.defers ?_ ?_ O0 Ml (λb x hk hx=>hk1 b x hk.1 hk.2 hx) ?_ ?_ (λk u bv hk=>by simp at hk) (.inl ⟨⟨by simp[fV],by simp⟩,by show st'.io=st.io;rw[lN]⟩)⟩;show _=st'.slots.length;rw[lN];simpa using h.size;show st'.boxes.length=st'.slots.length;rw[lN];simpa using h.bsize;intro i av hi;have uw:(st.slots.set s (.val gg (dw IW off seg)))[i]?=some av:=by have:st'.slots[i]?=some av:=hi;rw[lN]at this;exact this
   by_cases his:i=s;subst his;rw[bu]at uw;simp only[cd]at uw;split at uw;simp at uw;subst uw;exact .inr ⟨_,⟨vs,eP,ee⟩,O2,hll⟩;cases uw;rw[aZ (cX his)]at uw;exact .inl ⟨⟨by simp[fV],by simpa using his⟩,uw,rfl⟩;intro t pb hb;have ig:st.boxes[t]?=some (some pb):=by have:st'.boxes[t]?=some (some pb):=hb;rw[lN]at this;exact this
   exact .inl ⟨⟨by simp[fV],by simp⟩,ig,rfl⟩
 |box s j=>
  have kW:st.boxes[s]?=some (some IW):=by simp only[AS.yb,dY]at fB;cases hb:st.boxes[s]? with|none=>simp[hb]at fB|some q=>rw[hb]at fB;simp at fB;rw[fB]
  have CG:s<st.boxes.length:=(aJ.1 kW).1;obtain⟨arr,T,fr,fp,kL,uI,hr,hn,xk,hl,LW,Ob⟩:=h.boxes s IW kW;obtain⟨us,f1,f2,f3,rfl,Xg,Dc,LI,nk⟩:=core (.box s) (by simp[fV]) hr hn hl;refine⟨us,f2,Xg,Dc,LI,?_⟩;intro w' hw' seg kX HE qZ iA GL Mo;let st':AS:={st.tn (.box s j) (dw IW off seg)with ep:=st.ep+1}
  have lN:st'={st with boxes:=st.boxes.set s (some (dw IW off seg)),ep:=st.ep+1}:=by show({st.tn (.box s j) (dw IW off seg)with ep:=st.ep+1}:AS)=_;simp only[AS.tn,AS.eZ,fE]
  have W1:∀t,ij st t->ij st' t:=λt ht=>by rw[lN];obtain⟨c0,hc0⟩:=ht;by_cases uJ:s=t;subst uJ;exact⟨dw IW off seg,by simp[CG]⟩;exact⟨c0,by rw[aZ uJ];exact hc0⟩
  obtain⟨hle,O2,hll,_,hk1,hk2,O0,Ml⟩:=h.Ue (.box s) (by simp[fV]) hn hl (st':=st') rfl (by rw[lN]) W1 HE qZ iA GL;have ee:=nk w' hw' st' seg kX rfl (by rw[lN]) W1 HE qZ iA GL Mo;have O4:=hk2 (g.β s) LW xk;refine⟨_,h.step (λx=>¬dq (some x)/\x≠ .box s) hle h.defers ?_ ?_ O0 Ml (λb x hk hx=>hk1 b x hk.1 hk.2 hx) ?_ ?_ (λk u bv hk=>by simp at hk) (.inl ⟨⟨by simp[fV],by simp⟩,by show st'.io=st.io;rw[lN]⟩)⟩;show _=st'.slots.length;rw[lN];exact h.size;show st'.boxes.length=st'.slots.length;rw[lN];simpa using h.bsize;intro i av hi;have uw:st.slots[i]?=some av:=by have:st'.slots[i]?=some av:=hi;rw[lN]at this;exact this
  exact .inl ⟨⟨by simp[fV],by simp⟩,uw,rfl⟩;intro t pb hb;have ig:(st.boxes.set s (some (dw IW off seg)))[t]?=some (some pb):=by have:st'.boxes[t]?=some (some pb):=hb;rw[lN]at this;exact this
  by_cases uJ:t=s;subst uJ;rw[bu]at ig;simp only[cd,CG]at ig;simp at ig;subst ig;have NV:g.β t∉f1++kX++f3:=by intro hm;simp only[aA]at hm;rcases hm with(hm|hm)|hm;exact xk (by simp[hm]);rcases(qZ _ hm).2 with h2|h2;exact xk (by simp[h2]);have:=(h.fW _ _ LW).1;omega;exact xk (by simp[hm])
  exact .inr ⟨arr,T,fr,_,O4.2.1.trans kL,uI,ee,O2,NV,hll,O4.1,O4.2.2.trans Ob⟩;rw[aZ (cX uJ)]at ig;exact .inl ⟨⟨by simp[fV],by simpa using uJ⟩,ig,rfl⟩
 |io j=>
  simp only[AS.yb,bf]at fB;subst fB;obtain⟨fp,hr,hn,hl⟩:=h.io;obtain⟨us,f1,f2,f3,rfl,Xg,Dc,LI,nk⟩:=core .io (by simp[fV]) hr hn hl;refine⟨us,f2,Xg,Dc,LI,?_⟩;intro w' hw' seg kX HE qZ iA GL Mo;let st':AS:={st.tn (.io j) (dw st.io off seg)with ep:=st.ep+1}
  have lN:st'={st with io:=dw st.io off seg,ep:=st.ep+1}:=rfl;have W1:∀t,ij st t->ij st' t:=λt ht=>by rw[lN];exact ht
  obtain⟨hle,O2,hll,_,hk1,_,O0,Ml⟩:=h.Ue .io (by simp[fV]) hn hl (st':=st') rfl (by rw[lN]) W1 HE qZ iA GL;have ee:=nk w' hw' st' seg kX rfl (by rw[lN]) W1 HE qZ iA GL Mo;refine⟨_,h.step (λx=>¬dq (some x)/\x≠ .io) hle h.defers ?_ ?_ O0 Ml (λb x hk hx=>hk1 b x hk.1 hk.2 hx) ?_ ?_ (λk u bv hk=>by simp at hk) (.inr ⟨_,ee,O2,hll⟩)⟩;exact h.size;exact h.bsize;intro i av hi;exact .inl ⟨⟨by simp[fV],by simp⟩,hi,rfl⟩;intro t pb hb;exact .inl ⟨⟨by simp[fV],by simp⟩,hb,rfl⟩
theorem Ov:∀(os ss:ar AC){r:ar AC},oS os ss=some r->ss.length=os.length:=by
 intro os
 induction os with
 |nil=>intro ss r h;cases ss with
  |nil=>rfl
  |cons _ _=>simp[oS]at h
 |cons o os ih=>
  intro ss r h
  cases ss with
  |nil=>unfold oS at h;split at h<;>first|contradiction|cases h
  |cons s ss=>
   unfold oS at h
   split at h
   ·contradiction
   ·rename_i h1 h2
    injection h1 with h1 Vk;subst Vk
    injection h2 with h2 h2';subst h2'
    rw[Bool.cond_eq_ite]at h
    split at h
    ·obtain⟨r',hr,h⟩:=aY.1 h
     simp[ih _ hr]
    ·cases h
   all_goals first
    |cases h
    |(rename_i h1 h2
      injection h1 with h1 Vk;subst Vk
      injection h2 with h2 h2';subst h2'
      obtain⟨r',hr,h⟩:=aY.1 h
      simp[ih _ hr])
theorem RH (h:dN C g st a w []):∀(xs:ar Operand),xs.all (λx=>(st.rd x).hY)=true->pc A w (xs.map a.eval) (xs.map st.rd)
 |[],_=>trivial
 |x::xs,hf=>by simp only[bV,ah]at hf;exact⟨I7 (h.rd x) hf.1,RH h xs hf.2⟩
theorem akd {w:World}{e:CT}{v:Value}{xs:ar e.D}{fp0:ei}(h:eU hw w (.sl e) [v] xs fp0){n:Nat}{x:e.D}(hx:xs[n]?=some x): ∃b o0 cap arr T fr f1 fx f3,v=.slice (some ⟨b,o0,none⟩) xs.length cap/\w.heap[b]?=some (.cells arr T fr)/\ eU hw w e ((arr.toList.drop (o0+n*e.size)).take e.size) x fx/\fp0=b::(f1++fx++f3)/\ ∀(w':World)(hw':Nat->Nat)(x':e.D)(fx':ei),(∀b'∈b::(f1++f3),w'.heap[b']?=w.heap[b']?/\hw' b'=hw b')-> eU hw' w' e ((arr.toList.drop (o0+n*e.size)).take e.size) x' fx'->eU hw' w' (.sl e) [v] (xs.set n x') (b::(f1++fx'++f3)):=by
 obtain⟨u,hu,h⟩:=h;simp at hu;subst hu;have PA:n<xs.length:=(aJ.1 hx).1;rcases h with⟨⟨_,rfl⟩,rfl,rfl⟩|⟨b,o0,cap,arr,T,fr,fps,rfl,hb,uI,hs,hc,hh,rfl,hl,hr⟩;simp at hx;have Ua:fps[n]?=some fps[n]:=al (by omega);have NU:=HO Ua;refine⟨b,o0,cap,arr,T,fr,(fps.take n).flatten,fps[n],(fps.drop (n+1)).flatten,rfl,hb,hr n x _ hx Ua,by rw[NU.1],?_⟩;intro w' hw' x' fx' hk fB;have Yl:=hk b (by simp);refine⟨_,rfl,.inr ⟨b,o0,cap,arr,T,fr,fps.set n fx',by simp,Yl.1.trans hb,uI,hs,by simpa using hc,by rw[Yl.2];simpa using hh,by rw[NU.2],by simp[hl],?_⟩⟩;intro i y f hy hf;by_cases vG:i=n;subst vG;rw[bu]at hy hf;simp only[cd,PA]at hy;simp only[cd]at hf;rw[zip]at hf;simp at hy hf;subst hy;subst hf;exact fB;rw[aZ (cX vG)]at hy hf;refine eU.mono (hr i y f hy hf) (λb' alZ=>hk b' (dK _ ?_));have Vq:i<fps.length:=(aJ.1 hf).1;have hfi:fps[i]=f:=by rw[al Vq]at hf;simpa using hf
 rcases Nat.lt_or_gt_of_ne vG with iJ|hgt;refine br _ (List.mem_flatten.2 ⟨f,?_,alZ⟩);rw[List.mem_take_iff_getElem];exact⟨i,by omega,hfi⟩;refine bh _ (List.mem_flatten.2 ⟨f,?_,alZ⟩);rw[List.mem_drop_iff_getElem];exact⟨i-(n+1),by omega,by rw[<-hfi];congr 1;omega⟩
theorem bE.single {vs:iW}(h:bE c vs [x] fp):∃v,vs=[v]/\iD c v x fp:=by cases vs with|nil=>exact h.elim|cons v vs=>obtain⟨f1,f2,rfl,h1,h2⟩:=h;cases vs with|nil=>cases h2;exact⟨v,rfl,by simpa using h1⟩|cons _ _=>exact h2.elim
theorem aow {g:Bool}{v:Value}{a b:iW}(h:Cut g v a)(k:Cut g v b):b=a:=by cases g with|true=>simp only[Cut,cd]at h k;have:=h.symm.trans k;simp at this;exact this.symm|false=>simp only[Cut]at h k;simp at h k;rw[h,k]
theorem ao6 (EH:∀f,mD P f (Γ f)){o':Oper}(ho:o'.op=.call {callee:=.value f,args,argTypes:=ts})(hg:dN C g st a w [])(hf:st.rd f=.val false [.fn k])(P5:(Γ k).io=true){x0:Operand}{xs:ar Operand}(fK:args.toList=x0::xs){gg:Bool}(hx0:st.rd x0=.val gg cs){K:AS->au R}(hk:YQ Γ o' k gg cs xs st K=some r)(next:Act->World->Prop)(Q:Exit->Act->World->Prop)(gq:∀st' a' w',pL C st' a' w'->K st'=some r->next a' w'):o'.wp P a w next Q:=by
 have LV:=hg.rd f;rw[hf]at LV;have LV:=(eI LV).1;unfold YQ at hk;split at hk
 ·rename_i ep rt t en i off e1 ws;split at hk
  ·rename_i IW fB;split at hk
   ·rename_i t' e ys hO;cases hc:((ep==st.ep)&&(t'==t)&&(en.size==e.size)&&xs.all (λx=>(st.rd x).hY))with
    |false=>rw[hc]at hk;cases hk
    |true=>
     rw[hc]at hk;simp only[af]at hk;simp only[ah,bn]at hc;obtain⟨⟨⟨Cw,htt⟩,xx⟩,SS⟩:=hc;subst htt;cases JY:idx ys i with
     |none=>rw[JY]at hk;cases hk
     |some x=>
      rw[JY]at hk;simp only[aa]at hk;split at hk
      ·rename_i tg0 e2 zs aad;cases fM:(Γ k).fn (.val gg [.sl (.own none) e2 zs]::xs.map st.rd)with
       |none=>rw[fM]at hk;cases hk
       |some y=>
        rw[fM]at hk;simp only at hk;split at hk
        ·rename_i tg e3 zs' al0;split at hk
         ·rename_i x' hof;cases hfl:((Γ k).av y).hY with
          |false=>rw[hfl]at hk;cases hk
          |true=>
           rw[hfl]at hk;simp only[af]at hk;obtain⟨⟨fn,c,Ua,P2,Aq⟩,_,th,_⟩:=EH k _ y fM;have th:=th P5 gg _ (xs.map st.rd) rfl;have P7:=hg.rd x0;rw[hx0]at P7;obtain⟨vs0,eP,Mn⟩:=P7;obtain⟨v,rfl,arP⟩:=Mn.single;obtain⟨us,f2,Xg,Dc,LI,nk⟩:=hg.amP rt fB rt.pos 1 (by rw[hO];rfl);rw[hO]at Xg;obtain⟨u,rfl,amn⟩:=Xg.single;obtain⟨n,vG,hxn⟩:=Vw JY;obtain⟨b,o0,cap,arr,T,fr,f1,fx,f3,hu,kL,N7,aqr,IA⟩:=akd amn.1 hxn;obtain⟨_,n2,b2,o2,aAP,abG,aqu,P4,_,_,Fc⟩:=arP.2.2.2 Cw;have hun:=(amn.2 t' rfl).2;rw[P4,hu]at hun;simp only[Value.slice.injEq,bf,Addr.mk.injEq]at hun;obtain⟨⟨rfl,rfl,_⟩,_,_⟩:=hun;have O2:n2=n:=by omega
           subst O2;rw[xx]at Fc;have aqn:arr[o0+n2*e.size+off]?=some v:=by rw[<-oX kL];exact Fc
           have amo:=wE (c:=cP C g st w) N7;obtain⟨k1,k2,k3,hkx,r1,r2,r3⟩:=amo.mid off 1;rw[aad]at r2;obtain⟨v',hv',aqJ⟩:=r2.single;have hvv:v'=v:=by
            have h0:(((arr.toList.drop (o0+n2*e.size)).take e.size).drop off).take 1=[v']:=hv';have h1:((((arr.toList.drop (o0+n2*e.size)).take e.size).drop off).take 1)[0]?=some v':=by rw[h0];rfl
            rw[dp]at h1;simp only[Nat.zero_lt_one,cd]at h1;rw[bR,dp]at h1;split at h1;rw[bR,cp,dZ,aqn]at h1;simpa using h1.symm;cases h1
           subst hvv;have aoP:=Dc;rw[aqr,hkx]at aoP;have xk:=di.1 aoP;have m0:=xk.2;rw[aX]at m0;have m1:=aG.1 m0;have m2:=aG.1 m1.2.1;have m2a:=m2.1;rw[aX]at m2a;have m3:=aG.1 m2a;have m4:=aG.1 m3.2.1;have ahM:∀q∈k2,q∈f2:=λq hq=>by rw[aqr,hkx];simp[hq]
           have HS:=th (λ_ _ _=>False) w (a.eval x0) (xs.map a.eval) g.hw k2 (λ_ _ _ hf=>hf.elim) ⟨[v'],eP,k2,[],by simp,⟨aqJ.1,by simp⟩,rfl⟩ m4.1 (λq hq=>(LI q (ahM q hq)).1) (RH hg xs SS);have Vl:(a.eval x0::xs.map a.eval).toArray=args.map a.eval:=by apply eQ;simp[fK]
           rw[Vl]at HS;have ez:(execOp a.eval o').run P w=.ok (.enter k (args.map a.eval)) w:=by simp[execOp,ho,resolve,LV,Deferred.ofValue,invoke,callFunc,Ua,P2];simpa using Aq
           unfold Oper.wp;rw[ez,Oper.upon_enter];refine HS.mono ?_;rintro e' w' ⟨vr,hw',frr,ji,rfl,ee,⟨vs1,P3,hbk⟩,J0,HD,iA⟩;show next (a.put o'.dst vr) w'
           have hvs:=aow eP P3;subst hvs;rw[al0]at hbk;obtain⟨v2,SX,azW⟩:=hbk.single;simp only[List.cons.injEq,iX]at SX;subst SX;have EP:∀q,q∈f2->q∉k2->q∉ji:=λq hq hq2 hm=>by rcases(HD q hm).2 with h2|h2;exact hq2 h2;have:=(LI q hq).1;omega
           have kM:∀q,(q=b\/q∈f1\/q∈k1\/q∈k3\/q∈f3)->q∈f2/\q∉k2:=by intro q hq;constructor;rw[aqr,hkx];rcases hq with hq|hq|hq|hq|hq<;>simp[hq];intro h2;rcases hq with hq|hq|hq|hq|hq;subst hq;exact xk.1 (by simp[h2]);exact m1.2.2 q hq q (by simp[h2]) rfl;exact m3.2.2 q hq q (by simp[h2]) rfl;exact m4.2.2 q h2 q hq rfl;exact m2.2.2 q (by simp[h2]) q hq rfl
           have aAd:(b::(f1++(k1++ji++k3)++f3)).Nodup:=by refine di.2 ⟨λhm=>?_,?_⟩;simp only[aA]at hm;rcases hm with(hm|((hm|hm)|hm))|hm;exact xk.1 (by simp[hm]);exact xk.1 (by simp[hm]);exact EP b (kM b (.inl rfl)).1 (kM b (.inl rfl)).2 hm;exact xk.1 (by simp[hm]);exact xk.1 (by simp[hm]);have hd':∀q,(q∈f1\/q∈k1\/q∈k3\/q∈f3)->q∉ji:=λq hq=>EP q (kM q (.inr hq)).1 (kM q (.inr hq)).2;rw[aX];refine aG.2 ⟨m1.1,aG.2 ⟨?_,m2.2.1,?_⟩,?_⟩;rw[aX];refine aG.2 ⟨m3.1,aG.2 ⟨J0,m4.2.1,?_⟩,?_⟩;rintro c hc d hd rfl;exact hd' c (by simp[hd]) hc;rintro c hc d hd rfl;rcases aA.1 hd with hd|hd;exact hd' c (by simp[hc]) hd;exact m3.2.2 c hc c (bh _ hd) rfl;rintro c hc d hd rfl;simp only[aA]at hc;rcases hc with(hc|hc)|hc;exact m2.2.2 c (by simp[hc]) c hd rfl;exact hd' c (by simp[hd]) hc;exact m2.2.2 c (by simp[hc]) c hd rfl;rintro c hc d hd rfl;simp only[aA]at hd;rcases hd with((hd|hd)|hd)|hd;exact m1.2.2 c hc c (by simp[hd]) rfl;exact hd' c (by simp[hc]) hd;exact m1.2.2 c hc c (by simp[hd]) rfl;exact m1.2.2 c hc c (by simp[hd]) rfl
           have ame:i.toNat=n2:=by omega
           obtain⟨g',oY⟩:=nk w' (λq=>if q∈ji then hw' q else g.hw q) [.sl (.own (some t')) e (ys.set n2 x')] (b::(f1++(k1++ji++k3)++f3)) aAd
            (λq hq=>by
             have hz:=iA.size;by_cases hm:q∈ji;refine⟨(HD q hm).1,?_⟩;rcases(HD q hm).2 with h2|h2;exact .inl (ahM q h2);exact .inr h2;have h2:q∈f2:=by refine(kM q ?_).1;simp only[cq,aA]at hq;rcases hq with hq|(hq|((hq|hq)|hq))|hq;exact .inl hq;simp[hq];simp[hq];exact absurd hq hm;simp[hq];simp[hq]
             exact⟨by have:=(LI q h2).1;omega,.inl h2⟩)
            ⟨iA.os,iA.tape,iA.output,iA.size,λq hq hm=>iA.block q hq (λh2=>hm (ahM q h2))⟩
            (λq hq hm=>by
             have:q∉ji:=λh2=>by rcases(HD q h2).2 with h3|h3;exact hm (ahM q h3);omega
             simp[this])
            (λc' hle TF GH=>by
             have nR:∀q,(q=b\/q∈f1\/q∈k1\/q∈k3\/q∈f3)->c'.w.heap[q]?=w.heap[q]?/\c'.hw q=g.hw q:=by intro q hq;have h2:=kM q hq;rw[TF,GH];exact⟨iA.block q (LI q h2.1).1 h2.2,by simp[EP q h2.1 h2.2]⟩
             have acr:bE c' [v'] [.sl (.own none) e3 zs'] ji:=by refine⟨ji,[],by simp,⟨?_,by simp⟩,rfl⟩;have h0:eU hw' w' (.sl e3) [v'] zs' ji:=azW.1;refine eU.mono h0 (λq hq=>?_);rw[TF,GH];exact⟨rfl,by simp[hq]⟩
             have P9:=Pn (c':=c') (vs:=(arr.toList.drop (o0+n2*e.size)).take e.size) (us:=[v']) (cs:=cellsOf e (.own none) x) (off:=off) (n:=1) hv'.symm rfl (r1.mono hle (λq hq=>nR q (by simp[hq]))) acr (r3.mono hle (λq hq=>nR q (by simp[hq])));obtain⟨q1,q2,hq,hq1,hq2⟩:=rh P9 hof;have hln:((arr.toList.drop (o0+n2*e.size)).take e.size).length=e.size:=eU.length N7;rw[dk (by omega)]at hq2;have aml:q2=[]:=hq2;subst aml;rw[bN (by omega)]at hq1;rw[bD]at hq;subst hq;have hO':=IA c'.w c'.hw x' _ (λq hq=>nR q (by simp only[cq,aA]at hq;rcases hq with hq|hq|hq<;>simp[hq])) hq1;refine⟨_,[],by simp,⟨hO',λq hq=>?_⟩,rfl⟩;cases hq;have h1:=amn.2 t' rfl;exact⟨(hle.hdr t' h1.1).1,by rw[(hle.hdr t' h1.1).2];exact h1.2⟩)
           rw[ame]at hk;exact gq _ _ _ ⟨g',oY.quiet o'.dst (I7 ee hfl)⟩ hk
         cases hk
        cases hk
      cases hk
   cases hk
  cases hk
 cases hk
theorem arY (EH:∀f,mD P f (Γ f)){o':Oper}(ho:o'.op=.call {callee:=.value f,args,argTypes:=ts})(hg:dN C g st a w [])(hf:st.rd f=.val false [.fn k])(P5:(Γ k).io=true){K:AS->au R}(hk:ioC Γ o' k args.toList st K=some r)(next:Act->World->Prop)(Q:Exit->Act->World->Prop)(gq:∀st' a' w',pL C st' a' w'->K st'=some r->next a' w'):o'.wp P a w next Q:=by
 have LV:=hg.rd f;rw[hf]at LV;have LV:=(eI LV).1;unfold ioC at hk;split at hk
 ·rename_i x0 xs fK;split at hk
  ·rename_i gg cs hx0;split at hk
   ·rename_i rt j Vp;split at hk
    ·rename_i IW fB;split at hk
     ·rename_i pb Mo;cases SS:(xs.all λx=>(st.rd x).hY)with
      |false=>rw[SS]at hk;cases hk
      |true=>
       rw[SS]at hk;simp only[af]at hk;cases fM:(Γ k).fn (.val gg pb::xs.map st.rd)with
       |none=>rw[fM]at hk;cases hk
       |some y=>
        rw[fM]at hk;simp only[aa]at hk;split at hk
        ·rename_i seg al0;cases hfl:((Γ k).av y).hY with
         |false=>rw[hfl]at hk;cases hk
         |true=>
          rw[hfl]at hk;simp only[af]at hk;obtain⟨⟨fn,c,Ua,P2,Aq⟩,_,th,_⟩:=EH k _ y fM;have th:=th P5 gg pb (xs.map st.rd) rfl;have P7:=hg.rd x0;rw[hx0]at P7;obtain⟨vs0,eP,Mn⟩:=P7;have aad:=Ov _ _ Mo;obtain⟨us,f2,Xg,Dc,LI,nk⟩:=hg.amP rt fB (rt.pos-j) cs.length aad;have aqk:=Wf (A:=λ_ _ _=>False) _ _ Mo Mn Xg;have HS:=th (λ_ _ _=>False) w (a.eval x0) (xs.map a.eval) g.hw f2 (λ_ _ _ hf=>hf.elim) ⟨vs0,eP,aqk⟩ Dc (λb hb=>(LI b hb).1) (RH hg xs SS);have Vl:(a.eval x0::xs.map a.eval).toArray=args.map a.eval:=by apply eQ;simp[fK]
          rw[Vl]at HS;have ez:(execOp a.eval o').run P w=.ok (.enter k (args.map a.eval)) w:=by simp[execOp,ho,resolve,LV,Deferred.ofValue,invoke,callFunc,Ua,P2];simpa using Aq
          unfold Oper.wp;rw[ez,Oper.upon_enter];refine HS.mono ?_;rintro e w' ⟨v,hw',fr,ji,rfl,ee,⟨vs1,P3,hbk⟩,J0,HD,iA⟩;show next (a.put o'.dst v) w'
          have hvs:vs1=vs0:=by cases gg with|true=>simp only[Cut,cd]at eP P3;have:=eP.symm.trans P3;simp at this;exact this.symm|false=>simp only[Cut]at eP P3;simp at eP P3;rw[eP,P3]
          subst hvs;let hwn:Nat->Nat:=λb=>if b∈ji then hw' b else g.hw b
          obtain⟨g',oY⟩:=nk w' (λb=>if b∈ji then hw' b else g.hw b) seg ji J0 HD iA (λb hb hm=>by
           have:b∉ji:=λhm'=>by rcases(HD b hm').2 with h2|h2;exact hm h2;omega
           simp[this]) (λc' hle TF GH=>by
           refine adJ (A:=λ_ _ _=>False) (hw':=hw') hle _ _ _ al0 Mn Xg (by rw[TF];exact hbk) (λb hb=>by rw[GH];simp[hb]))
          refine gq _ _ _ ⟨g',oY.quiet o'.dst (I7 ee hfl)⟩ hk
        cases hk
     cases hk
    cases hk
   ·exact ao6 EH ho hg hf P5 fK hx0 hk next Q gq
  cases hk
 cases hk
theorem ON {A':Rg}{mk:Nat->au Nat}{k:Bool}(hA:A' true=c.A k):∀{vs:iW}{xs:ar AC}{fp:ei}(j:Nat),bE (fA A' hw c.w) vs xs fp->xs.all (AC.Fa true)=true->
 (∀b∈fp,c.hw b=hw b)->(∀i v,vs[i]?=some v->∀t,mk (j+i)=some t->c.iss t/\v=c.hdr t)->bE c vs (sP k mk j xs) fp
 |[],[],_,_,h,_,_,_=>h
 |v::_,x::_,_,j,h,lg,hh,hm=>by
  obtain⟨f1,f2,rfl,h1,h2⟩:=h;simp only[bV,ah]at lg;refine⟨f1,f2,rfl,?_,ON hA (j+1) h2 lg.2 (λb hb=>hh b (bh _ hb)) (λi u hu t ht=>hm (i+1) u (by simpa using hu) t (by rwa[show j+(i+1)=j+1+i by omega]))⟩;have GL:∀b∈f1,c.hw b=hw b:=λb hb=>hh b (br _ hb);have ht:∀t,mk j=some t->c.iss t/\v=c.hdr t:=λt ht=>hm 0 v rfl t ht;have lg:=lg.1;cases x with
  |sl fl e xs=>
   cases fl with
   |own t=>exact⟨eU.mono h1.1 (λb hb=>⟨rfl,GL b hb⟩),ht⟩
   |arg k'=>
    have hk:k'=true:=by simpa[AC.Fa]using lg
    subst hk;exact⟨h1.1,by rw[<-hA];exact h1.2⟩
   |loc _ _=>cases lg
   |nest _ _ _ _ _ _=>cases lg
   |part _ _ _ _=>cases lg
   |fL _ _ _=>cases lg
  |int _ _=>exact h1
  |bool _=>exact h1
  |str _=>exact h1
  |fn _=>exact h1
  |kS=>cases lg
  |ptr _ _=>cases lg
  |HM _ _ _ _ _=>cases lg
  |un=>cases lg
  |bot=>cases lg
 |[],_::_,_,_,h,_,_,_=>h.elim
 |_::_,[],_,_,h,_,_,_=>h.elim
theorem Q9 {A':Rg}{w:World}{k:Bool}:∀{cs:ar AC},cs.all (AC.Fa k)=true->∀{c:RC}{vs:iW}{fp:ei},bE c vs cs fp->c.w=w->c.hw=hw->A' true=c.A k->bE (fA A' hw w) vs (cs.map AC.abf) fp
 |[],_,c,vs,fp,h,_,_,_=>by cases vs with|nil=>exact h|cons _ _=>exact h.elim
 |x::cs,lg,c,vs,fp,h,TF,GH,hA=>by
  cases vs with
  |nil=>exact h.elim
  |cons v vs=>
   obtain⟨f1,f2,rfl,h1,h2⟩:=h;simp only[bV,ah]at lg;refine⟨f1,f2,rfl,?_,Q9 lg.2 h2 TF GH hA⟩;have lg:=lg.1;cases x with
   |sl fl e xs=>
    cases fl with
    |own t=>exact⟨by have:=h1.1;rw[TF,GH]at this;exact this,by simp⟩
    |arg k'=>
     have hk:k'=k:=by simpa[AC.Fa]using lg
     subst hk;exact⟨h1.1,by have:=h1.2;rw[TF,<-hA]at this;exact this⟩
    |loc _ _=>cases lg
    |nest _ _ _ _ _ _=>cases lg
    |part _ _ _ _=>cases lg
    |fL _ _ _=>cases lg
   |int _ _=>exact h1
   |bool _=>exact h1
   |str _=>exact h1
   |fn _=>exact h1
   |kS=>cases lg
   |ptr _ _=>cases lg
   |HM _ _ _ _ _=>cases lg
   |un=>cases lg
   |bot=>cases lg
theorem YJ (h:dN C g st a w [])(s:Nat){A':Rg}(hA:∀b o,(cP C g st w).S b o/\b<w.heap.size/\g.eC b≠some (.box s)->A' false b o):∀(xs:ar Operand),xs.all (Jj st)=true->
 pc A' w (xs.map a.eval) (xs.map (Ie st))
 |[],_=>trivial
 |x::xs,hx=>by
  simp only[bV,ah]at hx;refine⟨?_,YJ h s hA xs hx.2⟩;have hx:=hx.1;cases x with
  |const _=>exact I7 (h.rd _) hx
  |func _=>exact I7 (h.rd _) hx
  |global _=>exact I7 (h.rd _) hx
  |tmp t=>
   have fB:∀(t0:Nat){e:CT}{v:Value}{xs:ar e.D}{fp:ei},eU g.hw w (.sl e) [v] xs fp->(∀b∈fp,g.eC b=some (.slot t0))->km w (A' false) (.sl e) [v] xs:=by
    intro t0 e v xs fp h1 hl;have h3:eU (λb=>if b∈fp then g.hw b else 0) w (.sl e) [v] xs fp:=eU.mono h1 (λb hb=>⟨rfl,by simp[hb]⟩)
    exact eU.rep (λb o ho=>by
     by_cases hb:b∈fp;have ho:o<g.hw b:=by simpa[hb]using ho
     have Ym:=hl b hb;exact hA b o ⟨.inr ho,(h.fW b _ Ym).1,by rw[Ym];simp⟩;simp[hb]at ho) h3
   obtain⟨fp,hr,hn,hl⟩:=h.slot t;simp only[Jj]at hx;show gj _ (a.tmps.getD t undef) (Ie st (.tmp t)) _;simp only[Ie];cases hv:st.get t with
   |Af _=>rw[hv]at hx;cases hx
   |val gg cs=>
    rw[hv]at hx hr;simp only at hx;obtain⟨vs,eP,hr⟩:=hr
    have key:∀(cs:ar AC)(vs:iW)(fp:ei),(cs.map st.Xl).all AC.Ru=true->(∀b∈fp,g.eC b=some (.slot t))->bE (cP C g st w) vs cs fp->
     bE (fA A' (λ_=>0) w) vs (cs.map st.Xl) []:=by
     intro cs
     induction cs with
     |nil=>intro vs fp _ _ h;cases vs with
      |nil=>rfl
      |cons _ _=>exact h.elim
     |cons c cs ih=>
      intro vs fp hc hl hr
      cases vs with
      |nil=>exact hr.elim
      |cons v vs=>
       obtain⟨f1,f2,rfl,h1,h2⟩:=hr
       simp only[ew,bV,ah]at hc
       refine⟨[],[],rfl,?_,ih vs f2 hc.2 (λb hb=>hl b (bh _ hb)) h2⟩
       have hc:=hc.1
       cases c with
       |sl fl e xs=>
        cases fl with
        |own tag=>exact⟨rfl,fB t h1.1 (λb hb=>hl b (br _ hb))⟩
        |arg k=>exact⟨rfl,km.mono (λb o u hs hu=>⟨hA b o ⟨.inl ⟨k,hs⟩,World.block_lt_of_cell? w _ hu,λhb=>h.RX hb k o hs⟩,hu⟩) h1.2⟩
        |loc ep pv=>
         cases pv with
         |none=>cases hc
         |some q=>
          obtain⟨r,tg⟩:=q
          cases r with
          |box _ _=>cases hc
          |io _=>cases hc
          |slot b j=>
           have SX:=(h1.2.2.2.2 (.slot b j) tg rfl).2
           simp only[AS.Xl]at hc⊢
           cases hrg:st.fj (.slot b j)with
           |none=>rw[hrg]at hc;cases hc
           |some c0=>
            rw[hrg]at hc
            split at hc
            ·rename_i t' e' ys hc0
             split at hc
             ·rename_i ht
              subst ht
              cases hc0
              rw[aM rfl]
              obtain⟨fp2,Xe,_,ER⟩:=h.slot b
              simp only[AS.fj]at hrg
              cases hgb:st.get b with
              |Af _=>rw[hgb]at hrg;cases hrg
              |val g2 LR=>
               rw[hgb]at hrg Xe
               simp only at hrg
               obtain⟨vs2,_,Xe⟩:=Xe
               rw[dY]at hrg
               obtain⟨v2,f3,_,Vt,ti⟩:=Xe.get j _ hrg
               have aAq:v=v2:=by have:=(Vt.2 t' rfl).2;rw[SX,this]
               rw[aAq]
               exact⟨rfl,fB b Vt.1 (λb' ig=>ER b' (ti b' ig))⟩
             ·cases hc
            ·cases hc
        |nest _ _ _ _ _ _=>cases hc
        |part _ _ _ _=>cases hc
        |fL _ _ _=>cases hc
       |int _ _=>exact⟨h1.1,rfl⟩
       |bool _=>exact⟨h1.1,rfl⟩
       |str _=>exact⟨h1.1,rfl⟩
       |fn _=>exact⟨h1.1,rfl⟩
       |kS=>cases hc
       |ptr _ _=>cases hc
       |HM _ _ _ _ _=>cases hc
       |un=>cases hc
       |bot=>cases hc
    exact⟨vs,eP,key cs vs fp hx hl hr⟩
theorem dN.aoq (h:dN C g st a w [])(s:Nat)(kW:st.boxes[s]?=some (some cs)): ∃arr T fr fp,w.heap[g.β s]?=some (.cells arr T fr)/\tp arr fr/\bE (cP C g st w) arr.toList cs fp/\fp.Nodup/\g.β s∉fp/\(∀b∈fp,b<w.heap.size)/\g.hw (g.β s)=0/\(∀b,b=g.β s\/b∈fp->g.eC b=some (.box s))/\ ∀(w':World)(hw':Nat->Nat)(jV:Array Value)(T':TypeId)(Yh:Nat×Nat)(pb:ar AC)(ji fv:ei)(A':Rg)(k:Bool),Fr (λb=>b=g.β s\/b∈fp) w w'->w'.heap[g.β s]?=some (.cells jV T' Yh)->tp jV Yh-> A' true=C.A k->bE (fA A' hw' w') jV.toList pb ji->pb.all (AC.Fa true)=true->ji.Nodup->g.β s∉ji->(∀b∈ji,b<w'.heap.size/\(b∈fp\/w.heap.size<=b))-> (∀b∈fv,b<w'.heap.size/\(b∈fp\/w.heap.size<=b)/\b∉ji/\b≠g.β s)-> ∃g',dN C g' (ahv st s (sP k (st.jb (some s)) 0 pb)) a w' []/\(∀b∈fv,g'.eC b=some (.hand 0)/\g'.hw b=hw' b)/\∀b,b<w.heap.size->g.eC b≠some (.box s)->g'.hw b=g.hw b:=by
 obtain⟨arr,T,fr,fp,kL,uI,hr,hn,xk,hl,LW,Ob⟩:=h.boxes s cs kW;have CG:s<st.boxes.length:=(aJ.1 kW).1;have Vr:∀b,b=g.β s\/b∈fp->g.eC b=some (.box s):=by rintro b (rfl|hb);exact LW;exact hl b hb
 refine⟨arr,T,fr,fp,kL,uI,hr,hn,xk,λb hb=>(h.fW b _ (hl b hb)).1,Ob,Vr,?_⟩;intro w' hw' jV T' Yh pb ji fv A' k iA P1 acx hA' zI aqE Fq NV RK LV;let bx':ar AC:=sP k (st.jb (some s)) 0 pb;let st':AS:=ahv st s bx';let hw2:Nat->Nat:=λb=>if b∈ji\/b∈fv then hw' b else if b=g.β s then 0 else g.hw b
 let amR:Nat->au ki:=λb=>if b=g.β s\/b∈ji then some (.box s) else if b∈fv then some (.hand 0) else g.eC b
 let g':Gh:=⟨hw2,g.β,amR,uG g.hdr (st.jb (some s)) jV.toList⟩
 have zn:st'.boxes=st.boxes.set s (some bx'):=by show((st.eZ s (some bx')).fR (some s)).boxes=_;rw[HJ,lY]
 have Vv:st'.slots=st.slots:=by show((st.eZ s (some bx')).fR (some s)).slots=_;rw[zY];rfl
 have P5:st'.io=st.io:=by show((st.eZ s (some bx')).fR (some s)).io=_;rw[Qw];rfl
 have LJ:∀t,nr st t->nr st' t:=λt ht=>by have h1:nr (st.eZ s (some bx')) t:=ht;exact J8 (d:=some s) h1
 have W1:∀t,ij st t->ij st' t:=by rintro t ⟨c0,hc0⟩;by_cases uJ:s=t;subst uJ;exact⟨bx',by rw[zn];simp[CG]⟩;exact⟨c0,by rw[zn,aZ uJ];exact hc0⟩
 have acr:∀b,b<w.heap.size->g.eC b≠some (.box s)->b∉ji/\b∉fv/\b≠g.β s:=by intro b hb Ym;refine⟨λhm=>?_,λhm=>?_,λhm=>Ym (Vr b (.inl hm))⟩;rcases(RK b hm).2 with h2|h2;exact Ym (Vr b (.inr h2));omega;rcases(LV b hm).2.1 with h2|h2;exact Ym (Vr b (.inr h2));omega
 have nR:∀b x,x≠ .box s->g.eC b=some x->amR b=some x/\w'.heap[b]?=w.heap[b]?/\hw2 b=g.hw b:=by intro b x hx hb;have LU:=(h.fW b x hb).1;have hnm:¬(b=g.β s\/b∈fp):=λhm=>hx (by have:=Vr b hm;rw[hb]at this;simpa using this);obtain⟨n1,n2,n3⟩:=acr b LU (by rw[hb];simpa using hx);refine⟨?_,iA.block b LU hnm,?_⟩;show(if b=g.β s\/b∈ji then _ else if b∈fv then _ else _)=_;rw[aK (by rintro(h1|h1);exact n3 h1;exact n1 h1),aK n2];exact hb;show(if b∈ji\/b∈fv then _ else if b=g.β s then _ else _)=_;rw[aK (by rintro(h1|h1);exact n1 h1;exact n2 h1),aK n3]
 have hcA:∀k b o u,C.A k b o->w.cell? ⟨b,o,none⟩=some u->w'.cell? ⟨b,o,none⟩=some u:=by intro k b o u hA hu;have hb:b<w.heap.size:=World.block_lt_of_cell? w _ hu;rw[World.cell?_of_block (a:=⟨b,o,none⟩) (iA.block b hb (λhm=>h.RX (Vr b hm) k o hA))];exact hu
 have hle:(cP C g st w).Le (cP C g' st' w'):=⟨rfl,λt ht=>⟨LJ t ht,GK ht⟩,hcA,Nat.le_succ _,λt ht=>⟨W1 t ht,rfl⟩,λhe=>absurd he (Nat.succ_ne_self _)⟩
 refine⟨g',h.step (λx=>x≠ .box s) hle h.defers ?_ ?_ ?_ ?_ (λb x hk hb=>nR b x hk hb) ?_ ?_ (λk u bv hk=>by simp at hk) (.inl ⟨by simp,P5⟩),λb hb=>?_,λb hb Ym=>?_⟩;rw[Vv];exact h.size;rw[Vv,zn,aL];exact h.bsize;refine h.frame.trans iA (λb hb hm=>?_);rcases(h.fW b _ (Vr b hm)).2 with h2|h2;omega;exact h2;intro b x hx;have Fe:(if b=g.β s\/b∈ji then some (ki.box s) else if b∈fv then some (.hand 0) else g.eC b)=some x:=hx;have hz:=iA.size;have hold:b∈fp\/w.heap.size<=b->C.w0.heap.size<=b\/C.M b:=by rintro(h2|h2);exact(h.fW b _ (hl b h2)).2;exact .inl (aF h.frame.size h2)
 split at Fe;rename_i hm;rcases hm with rfl|hm;have:=h.fW _ _ LW;exact⟨by omega,this.2⟩;exact⟨(RK b hm).1,hold (RK b hm).2⟩;split at Fe;rename_i hm;exact⟨(LV b hm).1,hold (LV b hm).2.1⟩;have:=h.fW b x Fe;exact⟨by omega,this.2⟩;intro i av hi;rw[Vv]at hi;exact .inl ⟨by simp,hi,rfl⟩;intro t LR hb;rw[zn]at hb;by_cases uJ:t=s;subst uJ;rw[bu]at hb;simp only[cd,CG]at hb;simp at hb;subst hb;refine .inr ⟨jV,T',Yh,ji,P1,acx,?_,Fq,NV,λb hb=>?_,?_,?_⟩
 have:=ON (c:=cP C g' st' w') (A':=A') (hw:=hw') (mk:=st.jb (some t)) (k:=k) hA' 0 (vs:=jV.toList) (xs:=pb) (fp:=ji) zI aqE
  (λb hb=>by show(if b∈ji\/b∈fv then _ else _)=_;rw[aM (.inl hb)])
  (λi u hu q hq=>by
   rw[cv]at hq;have hm:=sX hq;have hm2:nr st' q:=by have h1:st.jb (some t) i=some q:=hq;have h2:(st.eZ t (some bx')).jb (some t) i=some q:=h1;exact(sX h2).2.1
   exact⟨hm2,GJ hu hq⟩)
 exact this;show(if b=g.β t\/b∈ji then _ else _)=_;rw[aM (.inr hb)];show(if g.β t=g.β t\/g.β t∈ji then _ else _)=_;rw[aM (.inl rfl)];show(if g.β t∈ji\/g.β t∈fv then _ else if g.β t=g.β t then _ else _)=_;rw[aK (by rintro(h1|h1);exact NV h1;exact(LV _ h1).2.2.2 rfl),aM rfl];rw[aZ (cX uJ)]at hb;exact .inl ⟨by simpa using uJ,hb,rfl⟩;obtain⟨_,_,h3,h4⟩:=LV b hb;refine⟨?_,?_⟩;show(if b=g.β s\/b∈ji then _ else if b∈fv then _ else _)=_;rw[aK (by rintro(h1|h1);exact h4 h1;exact h3 h1),aM hb];show(if b∈ji\/b∈fv then _ else _)=_;rw[aM (.inr hb)];obtain⟨n1,n2,n3⟩:=acr b hb Ym;show(if b∈ji\/b∈fv then _ else if b=g.β s then _ else _)=_;rw[aK (by rintro(h1|h1);exact n1 h1;exact n2 h1),aK n3]
theorem ZJ:∀{vs:iW}{cs:ar AC}{fp:ei},bE c vs cs fp->cs.all AC.PC=true->fp=[]
 |[],[],_,h,_=>h
 |[],_::_,_,h,_=>h.elim
 |_::_,[],_,h,_=>h.elim
 |v::vs,x::cs,fp,h,hx=>by
  obtain⟨f1,f2,rfl,h1,h2⟩:=h;simp only[bV,ah]at hx;rw[ZJ h2 hx.2,bD];have hx:=hx.1;cases x with
  |sl fl e xs=>cases fl<;>first|exact h1.1|cases hx
  |int k n=>exact h1.2
  |bool b=>exact h1.2
  |str s=>exact h1.2
  |fn f=>exact h1.2
  |kS=>cases hx
  |ptr _ _=>cases hx
  |HM _ _ _ _ _=>cases hx
  |un=>cases hx
  |bot=>cases hx
theorem dN.alm (h:dN C g st a w [])(s:Nat)(kW:st.boxes[s]?=some (some cs))(RJ:cs.all AC.PC=true): ∀(w':World)(hw':Nat->Nat)(jV:Array Value)(T':TypeId)(Yh:Nat×Nat)(pb:ar AC)(ji fv:ei)(A':Rg)(k:Bool),Fr (λb=>b=g.β s) w w'->w'.heap[g.β s]?=some (.cells jV T' Yh)->tp jV Yh-> A' true=C.A k->bE (fA A' hw' w') jV.toList pb ji->pb.all (AC.Fa true)=true->ji.Nodup->g.β s∉ji->(∀b∈ji,b<w'.heap.size/\w.heap.size<=b)-> (∀b∈fv,b<w'.heap.size/\w.heap.size<=b/\b∉ji/\b≠g.β s)-> ∃g',dN C g' (st.eZ s (some (sP k (λ_=>none) 0 pb))) a w' []/\(∀b∈fv,g'.eC b=some (.hand 0)/\g'.hw b=hw' b)/\∀b,b<w.heap.size->g.eC b≠some (.box s)->g'.hw b=g.hw b:=by
 obtain⟨arr,T,fr,fp,kL,uI,hr,hn,xk,hl,LW,Ob⟩:=h.boxes s cs kW;have aqq:fp=[]:=ZJ hr RJ;subst aqq;have CG:s<st.boxes.length:=(aJ.1 kW).1;intro w' hw' jV T' Yh pb ji fv A' k iA P1 acx hA' zI aqE Fq NV RK LV;let bx':ar AC:=sP k (λ_=>none) 0 pb;let st':AS:=st.eZ s (some bx');let hw2:Nat->Nat:=λb=>if b∈ji\/b∈fv then hw' b else if b=g.β s then 0 else g.hw b
 let amR:Nat->au ki:=λb=>if b=g.β s\/b∈ji then some (.box s) else if b∈fv then some (.hand 0) else g.eC b
 let g':Gh:=⟨hw2,g.β,amR,g.hdr⟩
 have zn:st'.boxes=st.boxes.set s (some bx'):=by show(st.eZ s (some bx')).boxes=_;rw[lY]
 have W1:∀t,ij st t->ij st' t:=by rintro t ⟨c0,hc0⟩;by_cases uJ:s=t;subst uJ;exact⟨bx',by rw[zn];simp[CG]⟩;exact⟨c0,by rw[zn,aZ uJ];exact hc0⟩
 have hold:∀b,b<w.heap.size->b∉ji/\b∉fv:=by intro b hb;refine⟨λhm=>?_,λhm=>?_⟩;have:=(RK b hm).2;omega;have:=(LV b hm).2.1;omega
 have GL:∀b,b<w.heap.size->b≠g.β s->hw2 b=g.hw b:=by intro b hb JG;show(if b∈ji\/b∈fv then _ else if b=g.β s then _ else _)=_;rw[aK (by rintro(h1|h1);exact(hold b hb).1 h1;exact(hold b hb).2 h1),aK JG]
 have nR:∀b x,x≠ .box s->g.eC b=some x->amR b=some x/\w'.heap[b]?=w.heap[b]?/\hw2 b=g.hw b:=by intro b x hx hb;have LU:=(h.fW b x hb).1;have JG:b≠g.β s:=λhm=>hx (by rw[hm,LW]at hb;simpa using hb.symm);refine⟨?_,iA.block b LU JG,GL b LU JG⟩;show(if b=g.β s\/b∈ji then _ else if b∈fv then _ else _)=_;rw[aK (by rintro(h1|h1);exact JG h1;exact(hold b LU).1 h1),aK (hold b LU).2];exact hb
 have hcA:∀k b o u,C.A k b o->w.cell? ⟨b,o,none⟩=some u->w'.cell? ⟨b,o,none⟩=some u:=by intro k b o u hA hu;have hb:b<w.heap.size:=World.block_lt_of_cell? w _ hu;rw[World.cell?_of_block (a:=⟨b,o,none⟩) (iA.block b hb (λhm=>h.RX (by rw[hm];exact LW) k o hA))];exact hu
 have hle:(cP C g st w).Le (cP C g' st' w'):=by
  refine⟨rfl,λt ht=>⟨ht,rfl⟩,hcA,ba _,λt ht=>⟨W1 t ht,rfl⟩,λ_ b o u ho hu=>?_⟩;have hb:b<w.heap.size:=World.block_lt_of_cell? w _ hu;have TH:o<g.hw b:=ho;have JG:b≠g.β s:=λe=>by rw[e,Ob]at TH;omega
  refine⟨by show o<hw2 b;rw[GL b hb JG];exact TH,?_⟩;show w'.cell? ⟨b,o,none⟩=some u;rw[World.cell?_of_block (a:=⟨b,o,none⟩) (iA.block b hb JG)];exact hu
 refine⟨g',h.step (λx=>x≠ .box s) hle h.defers h.size ?_ ?_ ?_ (λb x hk hb=>nR b x hk hb) ?_ ?_ (λk u bv hk=>by simp at hk) (.inl ⟨by simp,rfl⟩),λb hb=>?_,λb hb Ym=>?_⟩;rw[zn,aL];exact h.bsize;refine h.frame.trans iA (λb hb hm=>?_);have hm:b=g.β s:=hm;subst hm;rcases(h.fW _ _ LW).2 with h2|h2;omega;exact h2;intro b x hx;have Fe:(if b=g.β s\/b∈ji then some (ki.box s) else if b∈fv then some (.hand 0) else g.eC b)=some x:=hx;have hz:=iA.size;split at Fe;rename_i hm;rcases hm with rfl|hm;have:=h.fW _ _ LW;exact⟨by omega,this.2⟩;exact⟨(RK b hm).1,.inl (aF h.frame.size (RK b hm).2)⟩;split at Fe;rename_i hm;exact⟨(LV b hm).1,.inl (aF h.frame.size (LV b hm).2.1)⟩;have:=h.fW b x Fe;exact⟨by omega,this.2⟩;intro i av hi;exact .inl ⟨by simp,hi,rfl⟩;intro t LR hb;rw[zn]at hb;by_cases uJ:t=s;subst uJ;rw[bu]at hb;simp only[cd,CG]at hb;simp at hb;subst hb;refine .inr ⟨jV,T',Yh,ji,P1,acx,?_,Fq,NV,λb hb=>?_,?_,?_⟩;have:=ON (c:=cP C g' st' w') (A':=A') (hw:=hw') (mk:=λ_=>none) (k:=k) hA' 0 (vs:=jV.toList) (xs:=pb) (fp:=ji) zI aqE (λb hb=>by show(if b∈ji\/b∈fv then _ else _)=_;rw[aM (.inl hb)]) (λi u hu q hq=>by cases hq);exact this;show(if b=g.β t\/b∈ji then _ else _)=_;rw[aM (.inr hb)];show(if g.β t=g.β t\/g.β t∈ji then _ else _)=_;rw[aM (.inl rfl)];show(if g.β t∈ji\/g.β t∈fv then _ else if g.β t=g.β t then _ else _)=_;rw[aK (by rintro(h1|h1);exact NV h1;exact(LV _ h1).2.2.2 rfl),aM rfl];rw[aZ (cX uJ)]at hb;exact .inl ⟨by simpa using uJ,hb,rfl⟩;obtain⟨_,_,h3,h4⟩:=LV b hb;refine⟨?_,?_⟩;show(if b=g.β s\/b∈ji then _ else if b∈fv then _ else _)=_;rw[aK (by rintro(h1|h1);exact h4 h1;exact h3 h1),aM hb];show(if b∈ji\/b∈fv then _ else _)=_;rw[aM (.inr hb)];exact GL b hb (λe=>Ym (by rw[e];exact LW))
theorem aqd (EH:∀f,mD P f (Γ f)){o':Oper}(ho:o'.op=.call {callee:=.value f,args,argTypes:=ts})(hg:dN C g st a w [])(hf:st.rd f=.val false [.fn k])(kW:(Γ k).bx=true){K:AS->au R}(hk:Aj Γ o' k args.toList st K=some r)(next:Act->World->Prop)(Q:Exit->Act->World->Prop)(gq:∀st' a' w',pL C st' a' w'->K st'=some r->next a' w'):o'.wp P a w next Q:=by
 have LV:=hg.rd f;rw[hf]at LV;have LV:=(eI LV).1;unfold Aj at hk;split at hk
 ·rename_i x0 xs fK;split at hk
  ·rename_i s hx0;split at hk
   ·rename_i cs Yi;have hb:st.boxes[s]?=some (some cs):=by rw[dY]at Yi;cases hq:st.boxes[s]? with|none=>rw[hq]at Yi;simp at Yi|some q=>rw[hq]at Yi;simp at Yi;rw[Yi]
    cases hc:(cs.all (AC.Fa (K8 cs))&&xs.all (Jj st))with
    |false=>rw[hc]at hk;cases hk
    |true=>
     rw[hc]at hk;simp only[af]at hk;simp only[ah]at hc;cases fM:(Γ k).fn (.val true (cs.map AC.abf)::xs.map (Ie st))with
     |none=>rw[fM]at hk;cases hk
     |some y=>
      rw[fM]at hk;simp only[aa]at hk;cases hc2:(((Γ k).back y).all (AC.Fa true)&&((Γ k).av y).aj0)with
      |false=>rw[hc2]at hk;cases hk
      |true=>
       rw[hc2]at hk;simp only[af]at hk;simp only[ah]at hc2;obtain⟨⟨fn,c,Ua,P2,Aq⟩,_,_,th,_⟩:=EH k _ y fM;have th:=th kW _ _ rfl;have P7:=hg.rd x0;rw[hx0]at P7;have Ab:=Ik P7;obtain⟨arr,T,fr,fp,kL,uI,ee,hn,xk,iJ,Ob,LM,nk⟩:=hg.aoq s hb;let A':Rg:=λq b o=>bif q then C.A (K8 cs) b o else((cP C g st w).S b o/\b<w.heap.size/\g.eC b≠some (.box s))
       have hA':∀q b' o,A' q b' o->b'<w.heap.size/\b'≠g.β s/\b'∉fp:=by
        intro q b' o hq;have key:b'<w.heap.size/\g.eC b'≠some (.box s):=by cases q with|true=>have hq:C.A (K8 cs) b' o:=hq;exact⟨iH (C.hA _ _ _ hq).1 hg.frame.size,λhb=>hg.RX hb _ o hq⟩|false=>exact hq.2
        exact⟨key.1,λe=>key.2 (LM b' (.inl e)),λe=>key.2 (LM b' (.inr e))⟩
       have HS:=th A' w (g.β s) (xs.map a.eval) arr T fr g.hw fp hA' kL uI (Q9 (k:=K8 cs) hc.1 ee rfl rfl rfl) hn xk iJ Ob (YJ hg s (λb o h=>h) xs hc.2);have aAm:a.eval x0=.pointer (some ⟨g.β s,0,none⟩):=Ab;have Vl:(Value.pointer (some ⟨g.β s,0,none⟩)::xs.map a.eval).toArray=args.map a.eval:=by apply eQ;simp[fK,aAm]
       rw[Vl]at HS;have ez:(execOp a.eval o').run P w=.ok (.enter k (args.map a.eval)) w:=by simp[execOp,ho,resolve,LV,Deferred.ofValue,invoke,callFunc,Ua,P2];simpa using Aq
       unfold Oper.wp;rw[ez,Oper.upon_enter];refine HS.mono ?_;rintro e w' ⟨v,hw',fv,jV,T',Yh,ji,rfl,Yo,P1,acx,zI,Fq,NV,RK,hnv,amd,iA⟩;show next (a.put o'.dst v) w'
       have tail:∀(st1:AS)(g':Gh),dN C g' st1 a w' []->(∀b∈fv,g'.eC b=some (.hand 0)/\g'.hw b=hw' b)->(∀b,b<w.heap.size->g.eC b≠some (.box s)->g'.hw b=g.hw b)->
        K ((st1.fR o'.dst).put o'.dst (((Γ k).av y).K9 st1.ep (st1.jb o'.dst)))=some r->next (a.put o'.dst v) w':=by
        intro st1 g' oY hlv hold hk
        have hAS:∀(hd:Nat->Value)(q:Bool)(b o:Nat),A' q b o->(cP C {g' with hdr:=hd} (st1.fR o'.dst) w').S b o:=by intro hd q b o hq;cases q with|true=>exact .inl ⟨_,hq⟩|false=>rcases hq.1 with hs|hs;exact .inl hs;exact .inr (by show o<g'.hw b;rw[hold b hq.2.1 hq.2.2];exact hs)
        have amb:∀b∈fv,g'.hw b=hw' b:=λb hb=>(hlv b hb).2
        have zI:∃hd,(∀t,nr st1 t->hd t=g'.hdr t)/\gj (cP C {g' with hdr:=hd} (st1.fR o'.dst) w') v (((Γ k).av y).K9 st1.ep (st1.jb o'.dst)) fv:=by
         generalize (Γ k).av y=y at Yo;cases y with
         |val gg cs=>obtain⟨vs,eP,hr⟩:=Yo;refine⟨uG g'.hdr (st1.jb o'.dst) vs,λt ht=>GK ht,vs,eP,?_⟩;have:=HH (c:=cP C {g' with hdr:=uG g'.hdr (st1.jb o'.dst) vs} (st1.fR o'.dst) w') (mk:=st1.jb o'.dst) (hAS _) 0 hr amb (λi u hu t ht=>by rw[cv]at ht;exact⟨(sX ht).2.1,GJ hu ht⟩);have Cw:(cP C {g' with hdr:=uG g'.hdr (st1.jb o'.dst) vs} (st1.fR o'.dst) w').ep=st1.ep:=Gy;rw[Cw]at this;exact this
         |Af ts=>obtain⟨ws,hv,hr⟩:=Yo;obtain⟨all,LH⟩:=RY hr;refine⟨uG g'.hdr (st1.jb o'.dst) all,λt ht=>GK ht,ws,hv,?_⟩;have:=VM (c:=cP C {g' with hdr:=uG g'.hdr (st1.jb o'.dst) all} (st1.fR o'.dst) w') (mk:=st1.jb o'.dst) (hAS _) LH 0 amb (λi u hu t ht=>by rw[cv]at ht;exact⟨(sX ht).2.1,GJ hu ht⟩);have Cw:(cP C {g' with hdr:=uG g'.hdr (st1.jb o'.dst) all} (st1.fR o'.dst) w').ep=st1.ep:=Gy;rw[Cw]at this;exact this
        obtain⟨hd,hhd,zI⟩:=zI
        obtain⟨g2,O1⟩:=oY.V7 o'.dst (hw':=g'.hw) (hdr':=hd) (fp:=fv) (st1:=st1.fR o'.dst) Qw zY HJ Gy (λt ht=>⟨J8 ht,hhd t ht⟩)
         (Fr.refl _ _) (λ_ _ _ _=>rfl) (λ_ _ _ ho hu=>⟨ho,hu⟩) zI hnv (λb hb=>⟨(amd b hb).1,.inl (by rw[(hlv b hb).1];rfl)⟩)
        exact gq _ _ _ ⟨g2,O1⟩ hk
       cases hcur:((Γ k).cur&&cs.all AC.PC)with
       |false=>rw[hcur]at hk;obtain⟨g',oY,hlv,hold⟩:=nk w' hw' jV T' Yh ((Γ k).back y) ji fv A' (K8 cs) iA P1 acx rfl zI hc2.1 Fq NV RK amd;exact tail _ g' oY hlv hold hk
       |true=>rw[hcur]at hk;simp only[ah]at hcur;have aqq:fp=[]:=ZJ ee hcur.2;subst aqq;obtain⟨g',oY,hlv,hold⟩:=hg.alm s hb hcur.2 w' hw' jV T' Yh ((Γ k).back y) ji fv A' (K8 cs) ⟨iA.os,iA.tape,iA.output,iA.size,λb hb hm=>iA.block b hb (λhh=>hm (hh.resolve_right (by simp)))⟩ P1 acx rfl zI hc2.1 Fq NV (λb hb=>⟨(RK b hb).1,(RK b hb).2.resolve_left (by simp)⟩) (λb hb=>⟨(amd b hb).1,(amd b hb).2.1.resolve_left (by simp),(amd b hb).2.2⟩);exact tail _ g' oY hlv hold hk
   cases hk
  cases hk
 cases hk
theorem arg_val (hA:c'.A=c.A)(hw:c'.w=c.w){v:Value}{x:AV}(h:gj c v x fp)(hx:x.Ru=true):fp=[]/\gj c' v x []:=by
 cases x with
 |Af _=>cases hx
 |val g cs=>
  obtain⟨vs,eP,h⟩:=h
  have key:∀(cs:ar AC)(vs:iW)(fp:ei),bE c vs cs fp->cs.all AC.Ru=true->fp=[]/\bE c' vs cs []:=by
   intro cs
   induction cs with
   |nil=>intro vs fp h _;cases vs with
    |nil=>exact⟨h,rfl⟩
    |cons _ _=>exact h.elim
   |cons x cs ih=>
    intro vs fp h hx
    cases vs with
    |nil=>exact h.elim
    |cons v vs=>
     obtain⟨f1,f2,rfl,h1,h2⟩:=h
     simp only[bV,ah]at hx
     obtain⟨rfl,k2⟩:=ih vs f2 h2 hx.2
     have hx:=hx.1
     have one:f1=[]/\iD c' v x []:=by
      cases x with
      |sl fl e xs=>cases fl with|arg k=>exact⟨h1.1,rfl,by rw[hA,hw];exact h1.2⟩|own _=>cases hx|loc _ _=>cases hx|nest _ _ _ _ _ _=>cases hx|part _ _ _ _=>cases hx|fL _ _ _=>cases hx
      |int _ _=>exact nA h1 rfl
      |bool _=>exact nA h1 rfl
      |str _=>exact nA h1 rfl
      |fn _=>exact nA h1 rfl
      |kS=>cases hx
      |ptr _ _=>cases hx
      |HM _ _ _ _ _=>cases hx
      |un=>cases hx
      |bot=>cases hx
     obtain⟨rfl,k1⟩:=one
     exact⟨rfl,[],[],rfl,k1,k2⟩
  obtain⟨e,k⟩:=key cs vs fp h hx;exact⟨e,vs,eP,k⟩
theorem abx (h:dN C g st a w []):∀(xs:ar Operand),xs.all (λx=>(st.rd x).Ru)=true->pc C.A w (xs.map a.eval) (xs.map st.rd)
 |[],_=>trivial
 |x::xs,hf=>by simp only[bV,ah]at hf;exact⟨(arg_val (c:=cP C g st w) (c':=fA C.A (λ_=>0) w) rfl rfl (h.rd x) hf.1).2,abx h xs hf.2⟩
theorem aqT (EH:∀f,mD P f (Γ f)){o':Oper}(ho:o'.op=.call {callee:=.value f,args,argTypes:=ts})(hg:dN C g st a w [])(hf:st.rd f=.val false [.fn k])(W1:(Γ k).pr=true){K:AS->au R}(hk:aj1 Γ o' k args.toList st K=some r)(next:Act->World->Prop)(Q:Exit->Act->World->Prop)(gq:∀st' a' w',pL C st' a' w'->K st'=some r->next a' w'):o'.wp P a w next Q:=by
 have LV:=hg.rd f;rw[hf]at LV;have LV:=(eI LV).1;unfold aj1 at hk;split at hk
 ·rename_i d hd;split at hk
  ·rename_i Nn;cases hc:args.toList.all (λx=>(st.rd x).Ru)with
   |false=>rw[hc]at hk;cases hk
   |true=>
    rw[hc]at hk;simp only[af]at hk;cases fM:(Γ k).fn (args.toList.map st.rd)with
    |none=>rw[fM]at hk;cases hk
    |some y=>
     rw[fM]at hk;simp only[aa]at hk;cases hc2:((Γ k).back y).all AC.Ru with
     |false=>rw[hc2]at hk;cases hk
     |true=>
      rw[hc2]at hk;simp only[af]at hk;obtain⟨⟨fn,c,Ua,P2,Aq⟩,_,_,_,th⟩:=EH k _ y fM;have HS:=th W1 C.A w (args.toList.map a.eval) (λq b o hq=>iH (C.hA q b o hq).1 hg.frame.size) (abx hg _ hc);have fK:(args.toList.map a.eval).toArray=args.map a.eval:=by apply eQ;simp
      rw[fK]at HS;have ez:(execOp a.eval o').run P w=.ok (.enter k (args.map a.eval)) w:=by simp[execOp,ho,resolve,LV,Deferred.ofValue,invoke,callFunc,Ua,P2];simpa using Aq
      unfold Oper.wp;rw[ez,Oper.upon_enter];refine HS.mono ?_;rintro e w' ⟨b,arr,T,fr,hw,rfl,hb,kL,uI,ee,iA⟩;show next (a.put o'.dst (.pointer (some ⟨b,0,none⟩))) w'
      rw[dY]at Nn;have LU:=oo kL;have JG:∀b' x,g.eC b'=some x->b'≠b:=λb' x hx e=>by have:=(hg.fW b' x hx).1;omega
      have hr1:bE ⟨λb'=>if b'=b then 0 else g.hw b',λt=>if t=d then b else g.β t,C.A,g.hdr,nr st,st.ep,ij st,w'⟩ arr.toList ((Γ k).back y) []:=by
       have hv:gj (fA C.A hw w') (.agg arr.toList.toArray) (.val true ((Γ k).back y)) []:=⟨arr.toList,rfl,ee⟩
       obtain⟨_,vs,eP,h⟩:=arg_val (c:=fA C.A hw w') (c':=⟨λb'=>if b'=b then 0 else g.hw b',λt=>if t=d then b else g.β t,C.A,g.hdr,nr st,st.ep,ij st,w'⟩) rfl rfl hv hc2;have:arr.toList=vs:=by have eP:Value.agg arr.toList.toArray=.agg vs.toArray:=eP;simp only[Value.agg.injEq]at eP;simpa using congrArg Array.toList eP
       rw[this];exact h
      obtain⟨g',O4,h'⟩:=hg.ae1 d (cs:=(Γ k).back y) (arr:=arr) (T:=T) (fr:=fr) (fp:=[]) (w':=w') (bnew:=b) (hw':=λb'=>if b'=b then 0 else g.hw b') (.inr ⟨hb,Nn⟩) ⟨iA.os,iA.tape,iA.output,iA.size,λb' ig _=>iA.block b' ig (λm=>m)⟩ kL uI LU (by simp) (λb' x hx _ hn=>by simp[hn]) (λb' o u ho hu=>by have ig:b'<w.heap.size:=World.block_lt_of_cell? w _ hu;exact⟨by simp[show b'≠b by omega];exact ho,Gc iA hu⟩) hr1 List.nodup_nil (by simp) (λb' ig=>by cases ig);have hdl:d<st.boxes.length:=(aJ.1 Nn).1;have hq:=h'.quiet (some d) (v:=.pointer (some ⟨b,0,none⟩)) (av:=.one (.ptr d 0)) (oP ⟨by simp[cP,O4],⟨(Γ k).back y,by rw[lY];simp[hdl]⟩,rfl⟩);rw[hd];exact gq _ _ _ ⟨g',hq⟩ hk
  cases hk
 cases hk
theorem aos (EH:∀f,mD P f (Γ f)){o':Oper}(ho:o'.op=.call {callee:=.value f,args,argTypes:=ts})(h:pL C st a w){K:AS->au R}(hk:La Γ o' f args.toList st K=some r)(next:Act->World->Prop)(Q:Exit->Act->World->Prop)(gq:∀st' a' w',pL C st' a' w'->K st'=some r->next a' w'):o'.wp P a w next Q:=by
 obtain⟨g,hg⟩:=h;unfold La at hk;split at hk
 ·rename_i k hf
  have LV:=hg.rd f
  rw[hf]at LV
  have LV:=(eI LV).1
  cases kW:(Γ k).bx with
  |true=>rw[kW]at hk;exact aqd EH ho hg hf kW hk next Q gq
  |false=>
  rw[kW]at hk
  simp only[ae]at hk
  cases W1:(Γ k).pr with
  |true=>rw[W1]at hk;exact aqT EH ho hg hf W1 hk next Q gq
  |false=>
  rw[W1]at hk
  simp only[ae]at hk
  cases P5:(Γ k).io with
  |true=>rw[P5]at hk;exact arY EH ho hg hf P5 hk next Q gq
  |false=>
  rw[P5]at hk
  simp only[ae]at hk
  cases fM:(Γ k).fn (args.toList.map λx=>((st.rd x).fresh st).asArg st.ep)with
  |none=>rw[fM]at hk;cases hk
  |some y0=>
   rw[fM]at hk
   simp only[aa]at hk
   obtain⟨⟨fn,c,Ua,P2,Aq⟩,th,_⟩:=EH k _ y0 fM
   have th:=th P5 kW
   have hk:K ((st.fR o'.dst).put o'.dst (((Γ k).res y0).K9 st.ep (st.jb o'.dst)))=some r:=by unfold EI.res;cases Xf:(Γ k).sel y0 with|true=>rw[Xf]at hk;exact hk|false=>rw[Xf]at hk;exact hk
   generalize hy0:(Γ k).res y0=y at hk th
   have HS:=th (λ_ b o=>(cP C g st w).S b o/\b<w.heap.size) w (args.toList.map a.eval) (λ_ _ _ h=>h.2) (aby hg args.toList)
   have fK:(args.toList.map a.eval).toArray=args.map a.eval:=by apply eQ;simp
   rw[fK]at HS
   have ez:(execOp a.eval o').run P w=.ok (.enter k (args.map a.eval)) w:=by simp[execOp,ho,resolve,LV,Deferred.ofValue,invoke,callFunc,Ua,P2];simpa using Aq
   unfold Oper.wp
   rw[ez,Oper.upon_enter]
   refine HS.mono ?_
   rintro e w' ⟨v,hw,fp,rfl,ee,J0,HD,iA⟩
   show next (a.put o'.dst v) w'
   let hw':Nat->Nat:=λb=>if b∈fp then hw b else g.hw b
   have aag:∀b,b<w.heap.size->b∉fp:=λb hb hm=>by have:=(HD b hm).1;omega
   have hA':∀(hd:Nat->Value)(_:Bool)(b o:Nat),((cP C g st w).S b o/\b<w.heap.size)->(cP C {g with hw:=hw',hdr:=hd} (st.fR o'.dst) w').S b o:=by rintro hd _ b o ⟨hs,hb⟩;rcases hs with hs|hs;exact .inl hs;exact .inr (by simp only[cP,hw',aK (aag b hb)];exact hs)
   have zI:∃hd,(∀t,nr st t->hd t=g.hdr t)/\gj (cP C {g with hw:=hw',hdr:=hd} (st.fR o'.dst) w') v (y.K9 st.ep (st.jb o'.dst)) fp:=by
    have amb:∀b∈fp,hw' b=hw b:=λb hb=>by simp[hw',hb]
    cases y with
    |val gg cs=>obtain⟨vs,eP,hr⟩:=ee;refine⟨uG g.hdr (st.jb o'.dst) vs,λt ht=>GK ht,vs,eP,?_⟩;have:=HH (c:=cP C {g with hw:=hw',hdr:=uG g.hdr (st.jb o'.dst) vs} (st.fR o'.dst) w') (mk:=st.jb o'.dst) (hA' _) 0 hr amb (λi u hu t ht=>by rw[cv]at ht;exact⟨(sX ht).2.1,GJ hu ht⟩);have Cw:(cP C {g with hw:=hw',hdr:=uG g.hdr (st.jb o'.dst) vs} (st.fR o'.dst) w').ep=st.ep:=Gy;rw[Cw]at this;exact this
    |Af ts=>obtain⟨ws,hv,hr⟩:=ee;obtain⟨all,LH⟩:=RY hr;refine⟨uG g.hdr (st.jb o'.dst) all,λt ht=>GK ht,ws,hv,?_⟩;have:=VM (c:=cP C {g with hw:=hw',hdr:=uG g.hdr (st.jb o'.dst) all} (st.fR o'.dst) w') (mk:=st.jb o'.dst) (hA' _) LH 0 amb (λi u hu t ht=>by rw[cv]at ht;exact⟨(sX ht).2.1,GJ hu ht⟩);have Cw:(cP C {g with hw:=hw',hdr:=uG g.hdr (st.jb o'.dst) all} (st.fR o'.dst) w').ep=st.ep:=Gy;rw[Cw]at this;exact this
   obtain⟨hd,hhd,zI⟩:=zI
   obtain⟨g',oY⟩:=hg.V7 o'.dst (hw':=hw') (hdr':=hd) (fp:=fp) (st1:=st.fR o'.dst) Qw zY HJ Gy (λt ht=>⟨J8 ht,hhd t ht⟩)
    ⟨iA.os,iA.tape,iA.output,iA.size,λb hb _=>iA.block b hb (λm=>m)⟩ (λb x hx _=>by simp[hw',aag b (hg.fW b x hx).1])
    (λb o u ho hu=>by have hb:b<w.heap.size:=World.block_lt_of_cell? w _ hu;exact⟨by simp[hw',aag b hb];exact ho,Gc iA hu⟩) zI J0 (λb hb=>⟨(HD b hb).2,.inr (HD b hb).1⟩)
   exact gq _ _ _ ⟨g',oY⟩ hk
 cases hk
end Go.Dn
