import Derived.Test.YtbebkmajekhclaaGreatDnOps8
/- A call by value: what a callee promises, and what the caller makes of it. -/
namespace Go.Dn
open Go.RowKit
variable {P:Program} {C:Ctx} {st:AS} {a:Act} {w:World} {R:Type} {r:R}
variable {x:AC} {args:Array Operand} {ts:Array TypeId} {Γ:BA} {g:Gh} {hw:Nat->Nat} {hdr:Nat->Value} {f:Operand} {c c':RC} {v:Value} {cs:aw AC} {d:ay Nat} {fp:fE} {all:jd}
def gr (A:Rg)(hw:Nat->Nat)(w:World):RC:=⟨hw,λ_=>0,A,λ_=>undef,λ_=>False,0,λ_=>False,w⟩
def qT (A:Rg)(w:World):jd->aw AV->Prop
 |[],[]=>True
 |v::vs,x::xs=>gK (gr A (λ_=>0) w) v x []/\qT A w vs xs
 |_,_=>False
def auV (P:Program)(f:Nat)(F:kH)(y:F.R)(g:Bool)(cs:aw AC)(rest:aw AV):Prop:=
 ∀(A:Rg)(w:World)(v0:Value)(vs:jd)(hw:Nat->Nat)(fp:fE),(∀k b o,A k b o->b<w.heap.size/\b∉fp)->gK (gr A hw w) v0 (.val g cs) fp->fp.Nodup->(∀b∈fp,b<w.heap.size)->qT A w vs rest->
  Calls P f (v0::vs).toArray w λe w'=>∃v hw' fr kK,e=.returned v/\gK (gr A hw' w') v (F.av y) fr/\gK (gr A hw' w') v0 (.val g (F.back y)) kK/\kK.Nodup/\
   (∀b∈kK,b<w'.heap.size/\(b∈fp\/w.heap.size<=b))/\Fr (λb=>b∈fp) w w'
def apW (P:Program)(f:Nat)(F:kH)(y:F.R)(cs:aw AC)(rest:aw AV):Prop:=
 ∀(A:Rg)(w:World)(b:Nat)(vs:jd)(arr:Array Value)(T:TypeId)(fr:Nat×Nat)(hw:Nat->Nat)(fp:fE),(∀k b' o,A k b' o->b'<w.heap.size/\b'≠b/\b'∉fp)->
  w.heap[b]?=some (.cells arr T fr)->qQ arr fr->bO (gr A hw w) arr.toList cs fp->fp.Nodup->b∉fp->(∀b'∈fp,b'<w.heap.size)->hw b=0->qT A w vs rest->
  Calls P f (.pointer (some ⟨b,0,none⟩)::vs).toArray w λe w'=>∃v hw' fv jv T' R2 kK,e=.returned v/\gK (gr A hw' w') v (F.av y) fv/\w'.heap[b]?=some (.cells jv T' R2)/\qQ jv R2/\
   bO (gr A hw' w') jv.toList (F.back y) kK/\kK.Nodup/\b∉kK/\(∀b'∈kK,b'<w'.heap.size/\(b'∈fp\/w.heap.size<=b'))/\fv.Nodup/\(∀b'∈fv,b'<w'.heap.size/\(b'∈fp\/w.heap.size<=b')/\b'∉kK/\b'≠b)/\Fr (λb'=>b'=b\/b'∈fp) w w'
def amo (P:Program)(f:Nat)(F:kH)(y:F.R)(xs:aw AV):Prop:=
 ∀(A:Rg)(w:World)(vs:jd),(∀k b o,A k b o->b<w.heap.size)->qT A w vs xs->
  Calls P f vs.toArray w λe w'=>∃b arr T fr hw,e=.returned (.pointer (some ⟨b,0,none⟩))/\w.heap.size<=b/\w'.heap[b]?=some (.cells arr T fr)/\qQ arr fr/\bO (gr A hw w') arr.toList (F.back y) []/\Fr (λ_=>False) w w'
def iJ (P:Program)(f:Nat)(F:kH):Prop:=
 ∀(xs:aw AV)(y:F.R),F.fn xs=some y->
  (∃fn c,P.funcs[f]?=some fn/\fn.body=some c/\(fn.name== "runtime.NumGoroutine")=false)/\
  (F.io=false->F.bx=false->∀(A:Rg)(w:World)(vs:jd),(∀k b o,A k b o->b<w.heap.size)->qT A w vs xs->
    Calls P f vs.toArray w λe w'=>∃v hw fp,e=.returned v/\gK (gr A hw w') v (F.res y) fp/\fp.Nodup/\(∀b∈fp,w.heap.size<=b/\b<w'.heap.size)/\Fr (λ_=>False) w w')/\
  (F.io=true->∀g cs rest,xs=.val g cs::rest->auV P f F y g cs rest)/\
  (F.bx=true->∀cs rest,xs=.val true cs::rest->apW P f F y cs rest)/\
  (F.pr=true->amo P f F y xs)
theorem sA (h:iq c v x fp)(hf:x.jU=true):fp=[]/\iq c' v x []:=by cases x with|int k n=>exact⟨h.2,h.1,rfl⟩|bool b=>exact⟨h.2,h.1,rfl⟩|str s=>exact⟨h.2,h.1,rfl⟩|fn f=>exact⟨h.2,h.1,rfl⟩|_=>cases hf
theorem Ig {c':RC}:∀{vs:jd}{xs:aw AC}{fp:fE},bO c vs xs fp->xs.all AC.jU=true->fp=[]/\bO c' vs xs []
 |[],[],_,h,_=>⟨h,rfl⟩
 |_::_,_::_,_,h,hf=>by obtain⟨f1,f2,rfl,h1,h2⟩:=h;simp only[bX,ae]at hf;obtain⟨rfl,k1⟩:=sA (c':=c') h1 hf.1;obtain⟨rfl,k2⟩:=Ig (c':=c') h2 hf.2;exact⟨rfl,[],[],rfl,k1,k2⟩
 |[],_::_,_,h,_=>h.elim
 |_::_,[],_,h,_=>h.elim
theorem WI:∀{ws:jd}{ts:aw (Bool×aw AC)}{fp:fE},gK.rF c ws ts fp->(ts.all λx=>x.2.all AC.jU)=true->gK.rF c' ws ts []
 |[],[],_,_,_=>rfl
 |_::_,_::_,_,h,hf=>by obtain⟨f1,f2,rfl,⟨vs,hv,h1⟩,h2⟩:=h;simp only[bX,ae]at hf;exact⟨[],[],rfl,⟨vs,hv,(Ig h1 hf.1).2⟩,WI h2 hf.2⟩
 |[],_::_,_,h,_=>h.elim
 |_::_,[],_,h,_=>h.elim
theorem OJ {x:AV}(h:gK c v x fp)(hf:x.jU=true):gK c' v x []:=by
 cases x with
 |val g cs=>obtain⟨vs,hv,h⟩:=h;exact⟨vs,hv,(Ig h hf).2⟩
 |xC ts=>obtain⟨ws,hv,h⟩:=h;exact⟨ws,hv,WI h hf⟩
theorem acr {A:Rg}:∀(os ss:aw AC){r:aw AC}{vs us:jd}{f:fE},oF os ss=some r->bO c vs os []->bO c us ss f->bO (gr A c.hw c.w) vs r f:=by
 intro os;induction os with
 |nil=>intro ss r vs us f h hv hu;cases ss with|cons _ _=>simp[oF]at h|nil=>simp[oF]at h;subst h;cases vs with|cons _ _=>exact hv.elim|nil=>cases us with|cons _ _=>exact hu.elim|nil=>exact hu
 |cons o os ih=>
  intro ss r vs us f h hv hu;cases vs with
  |nil=>exact hv.elim
  |cons v vs=>
   cases ss with
   |nil=>unfold oF at h;split at h<;>first|contradiction|cases h
   |cons s ss=>
    cases us with
    |nil=>exact hu.elim
    |cons u us=>
     obtain⟨g1,g2,hg,hv1,UE⟩:=hv;have e1:g1=[]:=by have:=hg.symm;simp at this;exact this.1
     have e2:g2=[]:=by have:=hg.symm;simp at this;exact this.2
     subst e1;subst e2;obtain⟨f1,f2,rfl,hu1,hu2⟩:=hu;have fl:∀{x:AC}{r'},x.jU=true->s.jU=true->o=x->oF os ss=some r'->r=x::r'->bO (gr A c.hw c.w) (v::vs) r (f1++f2):=by rintro x r' hx hs rfl hr rfl;obtain⟨rfl,_⟩:=sA (c':=c) hu1 hs;exact⟨[],f2,rfl,(sA hv1 hx).2,ih ss hr UE hu2⟩
     unfold oF at h;split at h;contradiction;rename_i ep rt t e0 xs0 os' t' e xs ss' h1 h2;injection h1 with h1 QJ;subst h1;subst QJ;injection h2 with h2 VJ;subst h2;subst VJ;cases ht:(t'==t)with
     |false=>rw[ht]at h;cases h
     |true=>
      have:t'=t:=by simpa using ht
      subst this;rw[ht]at h;simp only[ah]at h;obtain⟨r',hr,h⟩:=aS.1 h;cases h;have hv':=(hv1.2.2.2.2 rt t' rfl).2;have UD:=(hu1.2 t' rfl).2;have huv:u=v:=UD.trans hv'.symm;subst huv;exact⟨f1,f2,rfl,⟨hu1.1,by simp⟩,ih _ hr UE hu2⟩
     rename_i k n os' k' n' ss' h1 h2;injection h1 with h1 QJ;subst QJ;injection h2 with h2 VJ;subst h2;subst VJ;obtain⟨r',hr,h⟩:=aS.1 h;cases h;exact fl (x:=.int k n) rfl rfl h1 hr rfl;rename_i k os' k' ss' h1 h2;injection h1 with h1 QJ;subst QJ;injection h2 with h2 VJ;subst h2;subst VJ;obtain⟨r',hr,h⟩:=aS.1 h;cases h;exact fl (x:=.bool k) rfl rfl h1 hr rfl;rename_i k os' k' ss' h1 h2;injection h1 with h1 QJ;subst QJ;injection h2 with h2 VJ;subst h2;subst VJ;obtain⟨r',hr,h⟩:=aS.1 h;cases h;exact fl (x:=.str k) rfl rfl h1 hr rfl;cases h
theorem ZU (h:iq c v x fp):iq (gr (λ_ b o=>c.S b o/\b<c.w.heap.size) (λ_=>0) c.w) v (x.asArg c.ep) []:=by
 have hS:∀{e:CT}{xs:aw e.D},jG c.w c.S (.sl e) [v] xs->jG c.w (λb o=>c.S b o/\b<c.w.heap.size) (.sl e) [v] xs:=λhr=>
  jG.mono (λb o u hs hu=>⟨⟨hs,World.block_lt_of_cell? c.w _ hu⟩,hu⟩) hr
 cases x with|int k n=>exact⟨h.1,rfl⟩|bool b=>exact⟨h.1,rfl⟩|str s=>exact⟨h.1,rfl⟩|kh=>exact⟨h.1,rfl⟩|fn f=>exact⟨h.1,rfl⟩|ptr s off=>exact rfl|un=>exact rfl|bot=>exact rfl|Dc fl e y i off=>exact rfl|sl fl e xs=>cases fl with|nest _ _ _ _ _ _=>exact rfl|part _ _ _ _=>exact rfl|fR _ _ _=>exact rfl|own t=>exact⟨rfl,hS (fQ.rep (λb o ho=> .inr ho) h.1)⟩|arg k=>exact⟨rfl,hS (jG.mono (λb o u hs hu=>⟨.inl ⟨k,hs⟩,hu⟩) h.2)⟩|loc ep pv=>simp only[AC.asArg];split;rename_i he;exact⟨rfl,hS (h.2.2.2.1 (by simpa using he))⟩;exact rfl
theorem L1:∀{vs:jd}{xs:aw AC}{fp:fE},bO c vs xs fp->bO (gr (λ_ b o=>c.S b o/\b<c.w.heap.size) (λ_=>0) c.w) vs (xs.map (AC.asArg c.ep)) []
 |[],[],_,_=>rfl
 |_::_,_::_,_,h=>by obtain⟨f1,f2,rfl,h1,h2⟩:=h;exact⟨[],[],rfl,ZU h1,L1 h2⟩
 |[],_::_,_,h=>h.elim
 |_::_,[],_,h=>h.elim
theorem aeu {x:AV}(h:gK c v x fp):gK (gr (λ_ b o=>c.S b o/\b<c.w.heap.size) (λ_=>0) c.w) v (x.asArg c.ep) []:=by
 cases x with
 |val g cs=>obtain⟨vs,hv,h⟩:=h;exact⟨vs,hv,L1 h⟩
 |xC ts=>exact gK.bot _ _
theorem VZ (h:ew C g st a w []):∀(args:aw Operand),
 qT (λ_ b o=>(db C g st w).S b o/\b<w.heap.size) w (args.map a.eval) (args.map λx=>((st.rd x).fresh st).asArg st.ep)
 |[]=>trivial
 |x::xs=>⟨aeu (c:=db C g st w) (h.fresh (h.rd x)),VZ h xs⟩
theorem ZV {A':Rg}{tag:ay Nat}(h:iq (gr A' hw c.w) v x fp)(hA:∀k b o,A' k b o->c.S b o)(GW:∀b∈fp,c.hw b=hw b)(ht:∀t,tag=some t->c.iss t/\v=c.hdr t):iq c v (x.E2 c.ep tag) fp:=by
 cases x with
 |int k n=>exact h
 |bool b=>exact h
 |str s=>exact h
 |kh=>exact h
 |fn f=>exact h
 |ptr s off=>exact h.2.2
 |un=>exact h
 |bot=>exact h
 |Dc fl e y i off=>cases fl with|own t=>exact h.elim|nest _ _ _ _ _ _=>exact h.elim|part _ _ _ _=>exact h.elim|fR _ _ _=>exact h.elim|arg _=>exact h.1|loc ep pv=>exact h.1
 |sl fl e xs=>
  cases fl with
  |nest _ _ _ _ _ _=>exact h.1
  |part _ _ _ _=>exact h.1
  |fR _ _ _=>obtain⟨_,⟨k,hk,h3⟩,_⟩:=h;exact⟨λq hq=>(by cases hq),⟨k,hk,h3.mono (λb hb=>⟨rfl,GW b hb⟩)⟩,by simp⟩
  |own t=>exact⟨fQ.mono h.1 (λb hb=>⟨rfl,GW b hb⟩),ht⟩
  |loc ep pv=>exact h.1
  |arg _=>have hr:jG c.w c.S (.sl e) [v] xs:=jG.mono (λb o u hs hu=>⟨hA _ b o hs,hu⟩) h.2;refine⟨h.1,bh _,?_,λ_=>hr,by simp⟩;obtain⟨u,hu,k⟩:=hr;simp at hu;subst hu;rcases k with⟨⟨ad,rfl⟩,rfl⟩|⟨b,o,cap,rfl,_⟩;exact⟨_,_,_,rfl,rfl⟩;exact⟨_,_,_,rfl,rfl⟩
theorem Cy {A':Rg}{mk:Nat->ay Nat}(hA:∀k b o,A' k b o->c.S b o):∀{vs:jd}{xs:aw AC}{fp:fE}(j:Nat),bO (gr A' hw c.w) vs xs fp->(∀b∈fp,c.hw b=hw b)->
 (∀i v,vs[i]?=some v->∀t,mk (j+i)=some t->c.iss t/\v=c.hdr t)->bO c vs (Kg c.ep mk j xs) fp
 |[],[],_,_,h,_,_=>h
 |v::_,_::_,_,j,h,hh,hm=>by obtain⟨f1,f2,rfl,h1,h2⟩:=h;exact⟨f1,f2,rfl,ZV h1 hA (λb hb=>hh b (bH _ hb)) (λt ht=>hm 0 v rfl t ht),Cy hA (j+1) h2 (λb hb=>hh b (bu _ hb)) (λi u hu t ht=>hm (i+1) u (by simpa using hu) t (by rwa[show j+(i+1)=j+1+i by omega]))⟩
 |[],_::_,_,_,h,_,_=>h.elim
 |_::_,[],_,_,h,_,_=>h.elim
inductive Leaves (A:Rg) (hw:Nat->Nat) (w:World):List Value->List (Bool×List AC)->List Nat->List Value->Prop
 |nil:Leaves A hw w [] [] [] []
 |cons {v:Value} {vs:List Value} {g:Bool} {cs:List AC} {ts:List (Bool×List AC)} {f1 f2:List Nat} {us all:List Value} (fS:Cut g v us) (hr:bO (gr A hw w) us cs f1) (h:Leaves A hw w vs ts f2 all):
  Leaves A hw w (v::vs) ((g,cs)::ts) (f1++f2) (us++all)
theorem Lk {A:Rg}{w:World}:∀{ws:jd}{ts:aw (Bool×aw AC)}{fp:fE},gK.rF (gr A hw w) ws ts fp->∃all,Leaves A hw w ws ts fp all
 |[],[],_,h=>by cases h;exact⟨[],.nil⟩
 |_::_,(g,cs)::_,_,h=>by obtain⟨f1,f2,rfl,⟨us,fS,hr⟩,h2⟩:=h;obtain⟨all,Ij⟩:=Lk h2;exact⟨us++all,.cons fS hr Ij⟩
 |[],_::_,_,h=>h.elim
 |_::_,[],_,h=>h.elim
theorem Ps {A':Rg}{mk:Nat->ay Nat}(hA:∀k b o,A' k b o->c.S b o){ws:jd}{ts:aw (Bool×aw AC)}(h:Leaves A' hw c.w ws ts fp all): ∀j,(∀b∈fp,c.hw b=hw b)->(∀i v,all[i]?=some v->∀t,mk (j+i)=some t->c.iss t/\v=c.hdr t)->gK.rF c ws (ack c.ep mk j ts) fp:=by induction h with|nil=>intro j _ _;exact rfl| @cons v vs g cs ts f1 f2 us all fS hr h ih=>intro j hh hm;have hl:=hr.length;refine⟨f1,f2,rfl,⟨us,fS,Cy hA j hr (λb hb=>hh b (bH _ hb)) (λi u hu t ht=>?_)⟩,ih _ (λb hb=>hh b (bu _ hb)) (λi u hu t ht=>?_)⟩;exact hm i u (by rw[bE (aC.1 hu).1];exact hu) t ht;have hl':us.length=cs.length:=hl;refine hm (us.length+i) u (by rw[bz (by omega)];simpa using hu) t ?_;rw[<-gi,hl'];exact ht
def rP (hdr:Nat->Value)(mk:Nat->ay Nat)(all:jd):Nat->Value:=λu=>if mk (u/3%4096)=some u then(all[u/3%4096]?).getD undef else hdr u
theorem BN {t:Nat}(h:nD st t):rP hdr (st.iL d) all t=hdr t:=by unfold rP;rw[aG];intro e;exact(qH e).1 h
theorem BM {i t:Nat}(hv:all[i]?=some v)(h:st.iL d i=some t):v=rP hdr (st.iL d) all t:=by
 obtain⟨_,_,d',rfl,ht,hi⟩:=qH h;have alj:t/3%4096=i:=by rw[ht,Kt];omega
 unfold rP;rw[alj,aH h,hv];rfl
theorem acF {vs us:jd}{seg:aw AC}{f1 f2 f3:fE}{off n:Nat}(hus:us=(vs.drop off).take n)(hln:us.length=n)(r1:bO c' (vs.take off) (cs.take off) f1)(r2:bO c' us seg f2)(r3:bO c' (vs.drop (off+n)) (cs.drop (off+n)) f3): bO c' vs (eP cs off seg) (f1++f2++f3):=by
 have Bq:=r2.length;have e:vs=vs.take off++us++vs.drop (off+n):=by rw[hus,aY,<-fw,cE,cE]
 rw[e,eP,show seg.length=n by omega];exact bO.append (bO.append r1 r2) r3
theorem Rk:∀(os ss:aw AC){r:aw AC},oF os ss=some r->ss.length=os.length:=by
 intro os
 induction os with
 |nil=>intro ss r h;cases ss with
  |nil=>rfl
  |cons _ _=>simp[oF]at h
 |cons o os ih=>
  intro ss r h
  cases ss with
  |nil=>unfold oF at h;split at h<;>first|contradiction|cases h
  |cons s ss=>
   unfold oF at h
   split at h
   ·contradiction
   ·rename_i h1 h2
    injection h1 with h1 QJ;subst QJ
    injection h2 with h2 VJ;subst VJ
    rw[Bool.cond_eq_ite]at h
    split at h
    ·obtain⟨r',hr,h⟩:=aS.1 h
     simp[ih _ hr]
    ·cases h
   all_goals first
    |cases h
    |(rename_i h1 h2
      injection h1 with h1 QJ;subst QJ
      injection h2 with h2 VJ;subst VJ
      obtain⟨r',hr,h⟩:=aS.1 h
      simp[ih _ hr])
theorem H7 {A':Rg}{mk:Nat->ay Nat}{k:Bool}(hA:A' true=c.A k):∀{vs:jd}{xs:aw AC}{fp:fE}(j:Nat),bO (gr A' hw c.w) vs xs fp->xs.all (AC.Ak true)=true->
 (∀b∈fp,c.hw b=hw b)->(∀i v,vs[i]?=some v->∀t,mk (j+i)=some t->c.iss t/\v=c.hdr t)->bO c vs (qD k mk j xs) fp
 |[],[],_,_,h,_,_,_=>h
 |v::_,x::_,_,j,h,oY,hh,hm=>by
  obtain⟨f1,f2,rfl,h1,h2⟩:=h;simp only[bX,ae]at oY;refine⟨f1,f2,rfl,?_,H7 hA (j+1) h2 oY.2 (λb hb=>hh b (bu _ hb)) (λi u hu t ht=>hm (i+1) u (by simpa using hu) t (by rwa[show j+(i+1)=j+1+i by omega]))⟩;have GW:∀b∈f1,c.hw b=hw b:=λb hb=>hh b (bH _ hb);have ht:∀t,mk j=some t->c.iss t/\v=c.hdr t:=λt ht=>hm 0 v rfl t ht;have oY:=oY.1;cases x with
  |sl fl e xs=>
   cases fl with
   |own t=>exact⟨fQ.mono h1.1 (λb hb=>⟨rfl,GW b hb⟩),ht⟩
   |arg k'=>
    have hk:k'=true:=by simpa[AC.Ak]using oY
    subst hk;exact⟨h1.1,by rw[<-hA];exact h1.2⟩
   |loc _ _=>cases oY
   |nest _ _ _ _ _ _=>cases oY
   |part _ _ _ _=>cases oY
   |fR _ _ _=>cases oY
  |int _ _=>exact h1
  |bool _=>exact h1
  |str _=>exact h1
  |fn _=>exact h1
  |kh=>cases oY
  |ptr _ _=>cases oY
  |Dc _ _ _ _ _=>cases oY
  |un=>cases oY
  |bot=>cases oY
 |[],_::_,_,_,h,_,_,_=>h.elim
 |_::_,[],_,_,h,_,_,_=>h.elim
theorem Kw {A':Rg}{w:World}{k:Bool}:∀{cs:aw AC},cs.all (AC.Ak k)=true->∀{c:RC}{vs:jd}{fp:fE},bO c vs cs fp->c.w=w->c.hw=hw->A' true=c.A k->bO (gr A' hw w) vs (cs.map AC.Vz) fp
 |[],_,c,vs,fp,h,_,_,_=>by cases vs with|nil=>exact h|cons _ _=>exact h.elim
 |x::cs,oY,c,vs,fp,h,VK,Ho,hA=>by
  cases vs with
  |nil=>exact h.elim
  |cons v vs=>
   obtain⟨f1,f2,rfl,h1,h2⟩:=h;simp only[bX,ae]at oY;refine⟨f1,f2,rfl,?_,Kw oY.2 h2 VK Ho hA⟩;have oY:=oY.1;cases x with
   |sl fl e xs=>
    cases fl with
    |own t=>exact⟨by have:=h1.1;rw[VK,Ho]at this;exact this,by simp⟩
    |arg k'=>
     have hk:k'=k:=by simpa[AC.Ak]using oY
     subst hk;exact⟨h1.1,by have:=h1.2;rw[VK,<-hA]at this;exact this⟩
    |loc _ _=>cases oY
    |nest _ _ _ _ _ _=>cases oY
    |part _ _ _ _=>cases oY
    |fR _ _ _=>cases oY
   |int _ _=>exact h1
   |bool _=>exact h1
   |str _=>exact h1
   |fn _=>exact h1
   |kh=>cases oY
   |ptr _ _=>cases oY
   |Dc _ _ _ _ _=>cases oY
   |un=>cases oY
   |bot=>cases oY
theorem Sy (h:ew C g st a w [])(s:Nat){A':Rg}(hA:∀b o,(db C g st w).S b o/\b<w.heap.size/\g.eX b≠some (.box s)->A' false b o):∀(xs:aw Operand),xs.all (DS st)=true->
 qT A' w (xs.map a.eval) (xs.map (CQ st))
 |[],_=>trivial
 |x::xs,hx=>by
  simp only[bX,ae]at hx;refine⟨?_,Sy h s hA xs hx.2⟩;have hx:=hx.1;cases x with
  |const _=>exact OJ (h.rd _) hx
  |func _=>exact OJ (h.rd _) hx
  |global _=>exact OJ (h.rd _) hx
  |tmp t=>
   have ik:∀(t0:Nat){e:CT}{v:Value}{xs:aw e.D}{fp:fE},fQ g.hw w (.sl e) [v] xs fp->(∀b∈fp,g.eX b=some (.slot t0))->jG w (A' false) (.sl e) [v] xs:=by
    intro t0 e v xs fp h1 hl;have h3:fQ (λb=>if b∈fp then g.hw b else 0) w (.sl e) [v] xs fp:=fQ.mono h1 (λb hb=>⟨rfl,by simp[hb]⟩)
    exact fQ.rep (λb o ho=>by
     by_cases hb:b∈fp;have ho:o<g.hw b:=by simpa[hb]using ho
     have Sa:=hl b hb;exact hA b o ⟨.inr ho,(h.gL b _ Sa).1,by rw[Sa];simp⟩;simp[hb]at ho) h3
   obtain⟨fp,hr,hn,hl⟩:=h.slot t;simp only[DS]at hx;show gK _ (a.tmps.getD t undef) (CQ st (.tmp t)) _;simp only[CQ];cases hv:st.get t with
   |xC _=>rw[hv]at hx;cases hx
   |val gg cs=>
    rw[hv]at hx hr;simp only at hx;obtain⟨vs,fS,hr⟩:=hr
    have key:∀(cs:aw AC)(vs:jd)(fp:fE),(cs.map st.Q8).all AC.KO=true->(∀b∈fp,g.eX b=some (.slot t))->bO (db C g st w) vs cs fp->
     bO (gr A' (λ_=>0) w) vs (cs.map st.Q8) []:=by
     intro cs
     induction cs with
     |nil=>intro vs fp _ _ h;cases vs with
      |nil=>rfl
      |cons _ _=>exact h.elim
     |cons c cs ih=>
      intro vs fp hc hl hr
      cases vs with
      |nil=>exact hr.elim
      |cons v vs=>
       obtain⟨f1,f2,rfl,h1,h2⟩:=hr
       simp only[da,bX,ae]at hc
       refine⟨[],[],rfl,?_,ih vs f2 hc.2 (λb hb=>hl b (bu _ hb)) h2⟩
       have hc:=hc.1
       cases c with
       |sl fl e xs=>
        cases fl with
        |own tag=>exact⟨rfl,ik t h1.1 (λb hb=>hl b (bH _ hb))⟩
        |arg k=>exact⟨rfl,jG.mono (λb o u hs hu=>⟨hA b o ⟨.inl ⟨k,hs⟩,World.block_lt_of_cell? w _ hu,λhb=>h.Pq hb k o hs⟩,hu⟩) h1.2⟩
        |loc ep pv=>
         cases pv with
         |none=>cases hc
         |some q=>
          obtain⟨r,tg⟩:=q
          cases r with
          |box _ _=>cases hc
          |io _=>cases hc
          |slot b j=>
           have UE:=(h1.2.2.2.2 (.slot b j) tg rfl).2
           simp only[AS.Q8]at hc⊢
           cases ZF:st.fH (.slot b j)with
           |none=>rw[ZF]at hc;cases hc
           |some c0=>
            rw[ZF]at hc
            split at hc
            ·rename_i t' e' ys hc0
             split at hc
             ·rename_i ht
              subst ht
              cases hc0
              rw[aH rfl]
              obtain⟨fp2,Q2,_,Bq⟩:=h.slot b
              simp only[AS.fH]at ZF
              cases hgb:st.get b with
              |xC _=>rw[hgb]at ZF;cases ZF
              |val g2 Fk=>
               rw[hgb]at ZF Q2
               simp only at ZF
               obtain⟨vs2,_,Q2⟩:=Q2
               rw[ej]at ZF
               obtain⟨v2,f3,_,O3,qO⟩:=Q2.get j _ ZF
               have avJ:v=v2:=by have:=(O3.2 t' rfl).2;rw[UE,this]
               rw[avJ]
               exact⟨rfl,ik b O3.1 (λb' ix=>Bq b' (qO b' ix))⟩
             ·cases hc
            ·cases hc
        |nest _ _ _ _ _ _=>cases hc
        |part _ _ _ _=>cases hc
        |fR _ _ _=>cases hc
       |int _ _=>exact⟨h1.1,rfl⟩
       |bool _=>exact⟨h1.1,rfl⟩
       |str _=>exact⟨h1.1,rfl⟩
       |fn _=>exact⟨h1.1,rfl⟩
       |kh=>cases hc
       |ptr _ _=>cases hc
       |Dc _ _ _ _ _=>cases hc
       |un=>cases hc
       |bot=>cases hc
    exact⟨vs,fS,key cs vs fp hx hl hr⟩
theorem ew.ak1 (h:ew C g st a w [])(s:Nat)(kq:st.boxes[s]?=some (some cs)): ∃arr T fr fp,w.heap[g.β s]?=some (.cells arr T fr)/\qQ arr fr/\bO (db C g st w) arr.toList cs fp/\fp.Nodup/\g.β s∉fp/\(∀b∈fp,b<w.heap.size)/\g.hw (g.β s)=0/\(∀b,b=g.β s\/b∈fp->g.eX b=some (.box s))/\ ∀(w':World)(hw':Nat->Nat)(jv:Array Value)(T':TypeId)(R2:Nat×Nat)(rJ:aw AC)(kK fv:fE)(A':Rg)(k:Bool),Fr (λb=>b=g.β s\/b∈fp) w w'->w'.heap[g.β s]?=some (.cells jv T' R2)->qQ jv R2-> A' true=C.A k->bO (gr A' hw' w') jv.toList rJ kK->rJ.all (AC.Ak true)=true->kK.Nodup->g.β s∉kK->(∀b∈kK,b<w'.heap.size/\(b∈fp\/w.heap.size<=b))-> (∀b∈fv,b<w'.heap.size/\(b∈fp\/w.heap.size<=b)/\b∉kK/\b≠g.β s)-> ∃g',ew C g' (ac0 st s (qD k (st.iL (some s)) 0 rJ)) a w' []/\(∀b∈fv,g'.eX b=some (.hand 0)/\g'.hw b=hw' b)/\∀b,b<w.heap.size->g.eX b≠some (.box s)->g'.hw b=g.hw b:=by
 obtain⟨arr,T,fr,fp,kL,tN,hr,hn,xH,hl,IV,IY⟩:=h.boxes s cs kq;have Ay:s<st.boxes.length:=(aC.1 kq).1;have OX:∀b,b=g.β s\/b∈fp->g.eX b=some (.box s):=by rintro b (rfl|hb);exact IV;exact hl b hb
 refine⟨arr,T,fr,fp,kL,tN,hr,hn,xH,λb hb=>(h.gL b _ (hl b hb)).1,IY,OX,?_⟩;intro w' hw' jv T' R2 rJ kK fv A' k jH Js Xj hA' xI aoc DH Ju K3 Ml;let bx':aw AC:=qD k (st.iL (some s)) 0 rJ;let bU:AS:=ac0 st s bx';let hw2:Nat->Nat:=λb=>if b∈kK\/b∈fv then hw' b else if b=g.β s then 0 else g.hw b
 let ai5:Nat->ay kz:=λb=>if b=g.β s\/b∈kK then some (.box s) else if b∈fv then some (.hand 0) else g.eX b
 let g':Gh:=⟨hw2,g.β,ai5,rP g.hdr (st.iL (some s)) jv.toList⟩
 have vA:bU.boxes=st.boxes.set s (some bx'):=by show((st.fj s (some bx')).fX (some s)).boxes=_;rw[CA,kI]
 have O4:bU.slots=st.slots:=by show((st.fj s (some bx')).fX (some s)).slots=_;rw[vW];rfl
 have Q0:bU.io=st.io:=by show((st.fj s (some bx')).fX (some s)).io=_;rw[JV];rfl
 have Ng:∀t,nD st t->nD bU t:=λt ht=>by have h1:nD (st.fj s (some bx')) t:=ht;exact Et (d:=some s) h1
 have hpr:∀t,jF st t->jF bU t:=by rintro t ⟨c0,hc0⟩;by_cases uM:s=t;subst uM;exact⟨bx',by rw[vA];simp[Ay]⟩;exact⟨c0,by rw[vA,aP uM];exact hc0⟩
 have ae1:∀b,b<w.heap.size->g.eX b≠some (.box s)->b∉kK/\b∉fv/\b≠g.β s:=by intro b hb Sa;refine⟨λhm=>?_,λhm=>?_,λhm=>Sa (OX b (.inl hm))⟩;rcases(K3 b hm).2 with h2|h2;exact Sa (OX b (.inr h2));omega;rcases(Ml b hm).2.1 with h2|h2;exact Sa (OX b (.inr h2));omega
 have ud:∀b x,x≠ .box s->g.eX b=some x->ai5 b=some x/\w'.heap[b]?=w.heap[b]?/\hw2 b=g.hw b:=by intro b x hx hb;have GV:=(h.gL b x hb).1;have hnm:¬(b=g.β s\/b∈fp):=λhm=>hx (by have:=OX b hm;rw[hb]at this;simpa using this);obtain⟨n1,n2,n3⟩:=ae1 b GV (by rw[hb];simpa using hx);refine⟨?_,jH.block b GV hnm,?_⟩;show(if b=g.β s\/b∈kK then _ else if b∈fv then _ else _)=_;rw[aG (by rintro(h1|h1);exact n3 h1;exact n1 h1),aG n2];exact hb;show(if b∈kK\/b∈fv then _ else if b=g.β s then _ else _)=_;rw[aG (by rintro(h1|h1);exact n1 h1;exact n2 h1),aG n3]
 have hcA:∀k b o u,C.A k b o->w.cell? ⟨b,o,none⟩=some u->w'.cell? ⟨b,o,none⟩=some u:=by intro k b o u hA hu;have hb:b<w.heap.size:=World.block_lt_of_cell? w _ hu;rw[World.cell?_of_block (a:=⟨b,o,none⟩) (jH.block b hb (λhm=>h.Pq (OX b hm) k o hA))];exact hu
 have hle:(db C g st w).Le (db C g' bU w'):=⟨rfl,λt ht=>⟨Ng t ht,BN ht⟩,hcA,Nat.le_succ _,λt ht=>⟨hpr t ht,rfl⟩,λhe=>absurd he (Nat.succ_ne_self _)⟩
 refine⟨g',h.step (λx=>x≠ .box s) hle h.defers ?_ ?_ ?_ ?_ (λb x hk hb=>ud b x hk hb) ?_ ?_ (λk u bv hk=>by simp at hk) (.inl ⟨by simp,Q0⟩),λb hb=>?_,λb hb Sa=>?_⟩;rw[O4];exact h.size;rw[O4,vA,aB];exact h.bsize;refine h.frame.trans jH (λb hb hm=>?_);rcases(h.gL b _ (OX b hm)).2 with h2|h2;omega;exact h2;intro b x hx;have Cp:(if b=g.β s\/b∈kK then some (kz.box s) else if b∈fv then some (.hand 0) else g.eX b)=some x:=hx;have hz:=jH.size;have hold:b∈fp\/w.heap.size<=b->C.w0.heap.size<=b\/C.M b:=by rintro(h2|h2);exact(h.gL b _ (hl b h2)).2;exact .inl (bq h.frame.size h2)
 split at Cp;rename_i hm;rcases hm with rfl|hm;have:=h.gL _ _ IV;exact⟨by omega,this.2⟩;exact⟨(K3 b hm).1,hold (K3 b hm).2⟩;split at Cp;rename_i hm;exact⟨(Ml b hm).1,hold (Ml b hm).2.1⟩;have:=h.gL b x Cp;exact⟨by omega,this.2⟩;intro i av hi;rw[O4]at hi;exact .inl ⟨by simp,hi,rfl⟩;intro t Fk hb;rw[vA]at hb;by_cases uM:t=s;subst uM;rw[bG]at hb;simp only[cg,Ay]at hb;simp at hb;subst hb;refine .inr ⟨jv,T',R2,kK,Js,Xj,?_,DH,Ju,λb hb=>?_,?_,?_⟩
 have:=H7 (c:=db C g' bU w') (A':=A') (hw:=hw') (mk:=st.iL (some t)) (k:=k) hA' 0 (vs:=jv.toList) (xs:=rJ) (fp:=kK) xI aoc
  (λb hb=>by show(if b∈kK\/b∈fv then _ else _)=_;rw[aH (.inl hb)])
  (λi u hu q hq=>by
   rw[cx]at hq;have hm:=qH hq;have hm2:nD bU q:=by have h1:st.iL (some t) i=some q:=hq;have h2:(st.fj t (some bx')).iL (some t) i=some q:=h1;exact(qH h2).2.1
   exact⟨hm2,BM hu hq⟩)
 exact this;show(if b=g.β t\/b∈kK then _ else _)=_;rw[aH (.inr hb)];show(if g.β t=g.β t\/g.β t∈kK then _ else _)=_;rw[aH (.inl rfl)];show(if g.β t∈kK\/g.β t∈fv then _ else if g.β t=g.β t then _ else _)=_;rw[aG (by rintro(h1|h1);exact Ju h1;exact(Ml _ h1).2.2.2 rfl),aH rfl];rw[aP (cR uM)]at hb;exact .inl ⟨by simpa using uM,hb,rfl⟩;obtain⟨_,_,h3,h4⟩:=Ml b hb;refine⟨?_,?_⟩;show(if b=g.β s\/b∈kK then _ else if b∈fv then _ else _)=_;rw[aG (by rintro(h1|h1);exact h4 h1;exact h3 h1),aH hb];show(if b∈kK\/b∈fv then _ else _)=_;rw[aH (.inr hb)];obtain⟨n1,n2,n3⟩:=ae1 b hb Sa;show(if b∈kK\/b∈fv then _ else if b=g.β s then _ else _)=_;rw[aG (by rintro(h1|h1);exact n1 h1;exact n2 h1),aG n3]
theorem TA:∀{vs:jd}{cs:aw AC}{fp:fE},bO c vs cs fp->cs.all AC.I5=true->fp=[]
 |[],[],_,h,_=>h
 |[],_::_,_,h,_=>h.elim
 |_::_,[],_,h,_=>h.elim
 |v::vs,x::cs,fp,h,hx=>by
  obtain⟨f1,f2,rfl,h1,h2⟩:=h;simp only[bX,ae]at hx;rw[TA h2 hx.2,bI];have hx:=hx.1;cases x with
  |sl fl e xs=>cases fl<;>first|exact h1.1|cases hx
  |int k n=>exact h1.2
  |bool b=>exact h1.2
  |str s=>exact h1.2
  |fn f=>exact h1.2
  |kh=>cases hx
  |ptr _ _=>cases hx
  |Dc _ _ _ _ _=>cases hx
  |un=>cases hx
  |bot=>cases hx
theorem ew.ahm (h:ew C g st a w [])(s:Nat)(kq:st.boxes[s]?=some (some cs))(K2:cs.all AC.I5=true): ∀(w':World)(hw':Nat->Nat)(jv:Array Value)(T':TypeId)(R2:Nat×Nat)(rJ:aw AC)(kK fv:fE)(A':Rg)(k:Bool),Fr (λb=>b=g.β s) w w'->w'.heap[g.β s]?=some (.cells jv T' R2)->qQ jv R2-> A' true=C.A k->bO (gr A' hw' w') jv.toList rJ kK->rJ.all (AC.Ak true)=true->kK.Nodup->g.β s∉kK->(∀b∈kK,b<w'.heap.size/\w.heap.size<=b)-> (∀b∈fv,b<w'.heap.size/\w.heap.size<=b/\b∉kK/\b≠g.β s)-> ∃g',ew C g' (st.fj s (some (qD k (λ_=>none) 0 rJ))) a w' []/\(∀b∈fv,g'.eX b=some (.hand 0)/\g'.hw b=hw' b)/\∀b,b<w.heap.size->g.eX b≠some (.box s)->g'.hw b=g.hw b:=by
 obtain⟨arr,T,fr,fp,kL,tN,hr,hn,xH,hl,IV,IY⟩:=h.boxes s cs kq;have anX:fp=[]:=TA hr K2;subst anX;have Ay:s<st.boxes.length:=(aC.1 kq).1;intro w' hw' jv T' R2 rJ kK fv A' k jH Js Xj hA' xI aoc DH Ju K3 Ml;let bx':aw AC:=qD k (λ_=>none) 0 rJ;let bU:AS:=st.fj s (some bx');let hw2:Nat->Nat:=λb=>if b∈kK\/b∈fv then hw' b else if b=g.β s then 0 else g.hw b
 let ai5:Nat->ay kz:=λb=>if b=g.β s\/b∈kK then some (.box s) else if b∈fv then some (.hand 0) else g.eX b
 let g':Gh:=⟨hw2,g.β,ai5,g.hdr⟩
 have vA:bU.boxes=st.boxes.set s (some bx'):=by show(st.fj s (some bx')).boxes=_;rw[kI]
 have hpr:∀t,jF st t->jF bU t:=by rintro t ⟨c0,hc0⟩;by_cases uM:s=t;subst uM;exact⟨bx',by rw[vA];simp[Ay]⟩;exact⟨c0,by rw[vA,aP uM];exact hc0⟩
 have hold:∀b,b<w.heap.size->b∉kK/\b∉fv:=by intro b hb;refine⟨λhm=>?_,λhm=>?_⟩;have:=(K3 b hm).2;omega;have:=(Ml b hm).2.1;omega
 have GW:∀b,b<w.heap.size->b≠g.β s->hw2 b=g.hw b:=by intro b hb DK;show(if b∈kK\/b∈fv then _ else if b=g.β s then _ else _)=_;rw[aG (by rintro(h1|h1);exact(hold b hb).1 h1;exact(hold b hb).2 h1),aG DK]
 have ud:∀b x,x≠ .box s->g.eX b=some x->ai5 b=some x/\w'.heap[b]?=w.heap[b]?/\hw2 b=g.hw b:=by intro b x hx hb;have GV:=(h.gL b x hb).1;have DK:b≠g.β s:=λhm=>hx (by rw[hm,IV]at hb;simpa using hb.symm);refine⟨?_,jH.block b GV DK,GW b GV DK⟩;show(if b=g.β s\/b∈kK then _ else if b∈fv then _ else _)=_;rw[aG (by rintro(h1|h1);exact DK h1;exact(hold b GV).1 h1),aG (hold b GV).2];exact hb
 have hcA:∀k b o u,C.A k b o->w.cell? ⟨b,o,none⟩=some u->w'.cell? ⟨b,o,none⟩=some u:=by intro k b o u hA hu;have hb:b<w.heap.size:=World.block_lt_of_cell? w _ hu;rw[World.cell?_of_block (a:=⟨b,o,none⟩) (jH.block b hb (λhm=>h.Pq (by rw[hm];exact IV) k o hA))];exact hu
 have hle:(db C g st w).Le (db C g' bU w'):=by
  refine⟨rfl,λt ht=>⟨ht,rfl⟩,hcA,bh _,λt ht=>⟨hpr t ht,rfl⟩,λ_ b o u ho hu=>?_⟩;have hb:b<w.heap.size:=World.block_lt_of_cell? w _ hu;have Ni:o<g.hw b:=ho;have DK:b≠g.β s:=λe=>by rw[e,IY]at Ni;omega
  refine⟨by show o<hw2 b;rw[GW b hb DK];exact Ni,?_⟩;show w'.cell? ⟨b,o,none⟩=some u;rw[World.cell?_of_block (a:=⟨b,o,none⟩) (jH.block b hb DK)];exact hu
 refine⟨g',h.step (λx=>x≠ .box s) hle h.defers h.size ?_ ?_ ?_ (λb x hk hb=>ud b x hk hb) ?_ ?_ (λk u bv hk=>by simp at hk) (.inl ⟨by simp,rfl⟩),λb hb=>?_,λb hb Sa=>?_⟩;rw[vA,aB];exact h.bsize;refine h.frame.trans jH (λb hb hm=>?_);have hm:b=g.β s:=hm;subst hm;rcases(h.gL _ _ IV).2 with h2|h2;omega;exact h2;intro b x hx;have Cp:(if b=g.β s\/b∈kK then some (kz.box s) else if b∈fv then some (.hand 0) else g.eX b)=some x:=hx;have hz:=jH.size;split at Cp;rename_i hm;rcases hm with rfl|hm;have:=h.gL _ _ IV;exact⟨by omega,this.2⟩;exact⟨(K3 b hm).1,.inl (bq h.frame.size (K3 b hm).2)⟩;split at Cp;rename_i hm;exact⟨(Ml b hm).1,.inl (bq h.frame.size (Ml b hm).2.1)⟩;have:=h.gL b x Cp;exact⟨by omega,this.2⟩;intro i av hi;exact .inl ⟨by simp,hi,rfl⟩;intro t Fk hb;rw[vA]at hb;by_cases uM:t=s;subst uM;rw[bG]at hb;simp only[cg,Ay]at hb;simp at hb;subst hb;refine .inr ⟨jv,T',R2,kK,Js,Xj,?_,DH,Ju,λb hb=>?_,?_,?_⟩;have:=H7 (c:=db C g' bU w') (A':=A') (hw:=hw') (mk:=λ_=>none) (k:=k) hA' 0 (vs:=jv.toList) (xs:=rJ) (fp:=kK) xI aoc (λb hb=>by show(if b∈kK\/b∈fv then _ else _)=_;rw[aH (.inl hb)]) (λi u hu q hq=>by cases hq);exact this;show(if b=g.β t\/b∈kK then _ else _)=_;rw[aH (.inr hb)];show(if g.β t=g.β t\/g.β t∈kK then _ else _)=_;rw[aH (.inl rfl)];show(if g.β t∈kK\/g.β t∈fv then _ else if g.β t=g.β t then _ else _)=_;rw[aG (by rintro(h1|h1);exact Ju h1;exact(Ml _ h1).2.2.2 rfl),aH rfl];rw[aP (cR uM)]at hb;exact .inl ⟨by simpa using uM,hb,rfl⟩;obtain⟨_,_,h3,h4⟩:=Ml b hb;refine⟨?_,?_⟩;show(if b=g.β s\/b∈kK then _ else if b∈fv then _ else _)=_;rw[aG (by rintro(h1|h1);exact h4 h1;exact h3 h1),aH hb];show(if b∈kK\/b∈fv then _ else _)=_;rw[aH (.inr hb)];exact GW b hb (λe=>Sa (by rw[e];exact IV))
theorem anM (Cq:∀f,iJ P f (Γ f)){o':Oper}(ho:o'.op=.call {callee:=.value f,args,argTypes:=ts})(hg:ew C g st a w []){k:Nat}(hf:st.rd f=.val false [.fn k])(kq:(Γ k).bx=true){K:AS->ay R}(hk:wc Γ o' k args.toList st K=some r)(next:Act->World->Prop)(Q:Exit->Act->World->Prop)(ic:∀bU a' w',pc C bU a' w'->K bU=some r->next a' w'):o'.wp P a w next Q:=by
 have Ml:=hg.rd f;rw[hf]at Ml;have Ml:=(fb Ml).1;unfold wc at hk;split at hk
 ·rename_i x0 xs gE;split at hk
  ·rename_i s hx0;split at hk
   ·rename_i cs Us;have hb:st.boxes[s]?=some (some cs):=by rw[ej]at Us;cases hq:st.boxes[s]? with|none=>rw[hq]at Us;simp at Us|some q=>rw[hq]at Us;simp at Us;rw[Us]
    cases hc:(cs.all (AC.Ak (E1 cs))&&xs.all (DS st))with
    |false=>rw[hc]at hk;cases hk
    |true=>
     rw[hc]at hk;simp only[ah]at hk;simp only[ae]at hc;cases il:(Γ k).fn (.val true (cs.map AC.Vz)::xs.map (CQ st))with
     |none=>rw[il]at hk;cases hk
     |some y=>
      rw[il]at hk;simp only[aa]at hk;cases hc2:(((Γ k).back y).all (AC.Ak true)&&((Γ k).av y).afV)with
      |false=>rw[hc2]at hk;cases hk
      |true=>
       rw[hc2]at hk;simp only[ah]at hk;simp only[ae]at hc2;obtain⟨⟨fn,c,R9,W6,DJ⟩,_,_,Dd,_⟩:=Cq k _ y il;have Dd:=Dd kq _ _ rfl;have O2:=hg.rd x0;rw[hx0]at O2;have vZ:=CV O2;obtain⟨arr,T,fr,fp,kL,tN,fG,hn,xH,gF,IY,FV,pq⟩:=hg.ak1 s hb;let A':Rg:=λq b o=>bif q then C.A (E1 cs) b o else((db C g st w).S b o/\b<w.heap.size/\g.eX b≠some (.box s))
       have hA':∀q b' o,A' q b' o->b'<w.heap.size/\b'≠g.β s/\b'∉fp:=by
        intro q b' o hq;have key:b'<w.heap.size/\g.eX b'≠some (.box s):=by cases q with|true=>have hq:C.A (E1 cs) b' o:=hq;exact⟨Nat.lt_of_lt_of_le (C.hA _ _ _ hq).1 hg.frame.size,λhb=>hg.Pq hb _ o hq⟩|false=>exact hq.2
        exact⟨key.1,λe=>key.2 (FV b' (.inl e)),λe=>key.2 (FV b' (.inr e))⟩
       have Mj:=Dd A' w (g.β s) (xs.map a.eval) arr T fr g.hw fp hA' kL tN (Kw (k:=E1 cs) hc.1 fG rfl rfl rfl) hn xH gF IY (Sy hg s (λb o h=>h) xs hc.2);have avF:a.eval x0=.pointer (some ⟨g.β s,0,none⟩):=vZ;have anS:(Value.pointer (some ⟨g.β s,0,none⟩)::xs.map a.eval).toArray=args.map a.eval:=by apply fK;simp[gE,avF]
       rw[anS]at Mj;have eU:(execOp a.eval o').run P w=.ok (.enter k (args.map a.eval)) w:=by simp[execOp,ho,resolve,Ml,Deferred.ofValue,invoke,callFunc,R9,W6];simpa using DJ
       unfold Oper.wp;rw[eU,Oper.upon_enter];refine Mj.mono ?_;rintro e w' ⟨v,hw',fv,jv,T',R2,kK,rfl,Sg,Js,Xj,xI,DH,Ju,K3,hnv,aix,jH⟩;show next (a.put o'.dst v) w'
       have tail:∀(st1:AS)(g':Gh),ew C g' st1 a w' []->(∀b∈fv,g'.eX b=some (.hand 0)/\g'.hw b=hw' b)->(∀b,b<w.heap.size->g.eX b≠some (.box s)->g'.hw b=g.hw b)->
        K ((st1.fX o'.dst).put o'.dst (((Γ k).av y).E2 st1.ep (st1.iL o'.dst)))=some r->next (a.put o'.dst v) w':=by
        intro st1 g' oX hlv hold hk
        have hAS:∀(hd:Nat->Value)(q:Bool)(b o:Nat),A' q b o->(db C {g' with hdr:=hd} (st1.fX o'.dst) w').S b o:=by intro hd q b o hq;cases q with|true=>exact .inl ⟨_,hq⟩|false=>rcases hq.1 with hs|hs;exact .inl hs;exact .inr (by show o<g'.hw b;rw[hold b hq.2.1 hq.2.2];exact hs)
        have aiv:∀b∈fv,g'.hw b=hw' b:=λb hb=>(hlv b hb).2
        have xI:∃hd,(∀t,nD st1 t->hd t=g'.hdr t)/\gK (db C {g' with hdr:=hd} (st1.fX o'.dst) w') v (((Γ k).av y).E2 st1.ep (st1.iL o'.dst)) fv:=by
         generalize (Γ k).av y=y at Sg;cases y with
         |val gg cs=>obtain⟨vs,fS,hr⟩:=Sg;refine⟨rP g'.hdr (st1.iL o'.dst) vs,λt ht=>BN ht,vs,fS,?_⟩;have:=Cy (c:=db C {g' with hdr:=rP g'.hdr (st1.iL o'.dst) vs} (st1.fX o'.dst) w') (mk:=st1.iL o'.dst) (hAS _) 0 hr aiv (λi u hu t ht=>by rw[cx]at ht;exact⟨(qH ht).2.1,BM hu ht⟩);have Ac:(db C {g' with hdr:=rP g'.hdr (st1.iL o'.dst) vs} (st1.fX o'.dst) w').ep=st1.ep:=BI;rw[Ac]at this;exact this
         |xC ts=>obtain⟨ws,hv,hr⟩:=Sg;obtain⟨all,Ij⟩:=Lk hr;refine⟨rP g'.hdr (st1.iL o'.dst) all,λt ht=>BN ht,ws,hv,?_⟩;have:=Ps (c:=db C {g' with hdr:=rP g'.hdr (st1.iL o'.dst) all} (st1.fX o'.dst) w') (mk:=st1.iL o'.dst) (hAS _) Ij 0 aiv (λi u hu t ht=>by rw[cx]at ht;exact⟨(qH ht).2.1,BM hu ht⟩);have Ac:(db C {g' with hdr:=rP g'.hdr (st1.iL o'.dst) all} (st1.fX o'.dst) w').ep=st1.ep:=BI;rw[Ac]at this;exact this
        obtain⟨hd,hhd,xI⟩:=xI
        obtain⟨g2,Ik⟩:=oX.PT o'.dst (hw':=g'.hw) (hdr':=hd) (fp:=fv) (st1:=st1.fX o'.dst) JV vW CA BI (λt ht=>⟨Et ht,hhd t ht⟩)
         (Fr.refl _ _) (λ_ _ _ _=>rfl) (λ_ _ _ ho hu=>⟨ho,hu⟩) xI hnv (λb hb=>⟨(aix b hb).1,.inl (by rw[(hlv b hb).1];rfl)⟩)
        exact ic _ _ _ ⟨g2,Ik⟩ hk
       cases hcur:((Γ k).cur&&cs.all AC.I5)with
       |false=>rw[hcur]at hk;obtain⟨g',oX,hlv,hold⟩:=pq w' hw' jv T' R2 ((Γ k).back y) kK fv A' (E1 cs) jH Js Xj rfl xI hc2.1 DH Ju K3 aix;exact tail _ g' oX hlv hold hk
       |true=>rw[hcur]at hk;simp only[ae]at hcur;have anX:fp=[]:=TA fG hcur.2;subst anX;obtain⟨g',oX,hlv,hold⟩:=hg.ahm s hb hcur.2 w' hw' jv T' R2 ((Γ k).back y) kK fv A' (E1 cs) ⟨jH.os,jH.tape,jH.output,jH.size,λb hb hm=>jH.block b hb (λhh=>hm (hh.resolve_right (by simp)))⟩ Js Xj rfl xI hc2.1 DH Ju (λb hb=>⟨(K3 b hb).1,(K3 b hb).2.resolve_left (by simp)⟩) (λb hb=>⟨(aix b hb).1,(aix b hb).2.1.resolve_left (by simp),(aix b hb).2.2⟩);exact tail _ g' oX hlv hold hk
   cases hk
  cases hk
 cases hk
theorem arg_val (hA:c'.A=c.A)(hw:c'.w=c.w){x:AV}(h:gK c v x fp)(hx:x.KO=true):fp=[]/\gK c' v x []:=by
 cases x with
 |xC _=>cases hx
 |val g cs=>
  obtain⟨vs,fS,h⟩:=h
  have key:∀(cs:aw AC)(vs:jd)(fp:fE),bO c vs cs fp->cs.all AC.KO=true->fp=[]/\bO c' vs cs []:=by
   intro cs
   induction cs with
   |nil=>intro vs fp h _;cases vs with
    |nil=>exact⟨h,rfl⟩
    |cons _ _=>exact h.elim
   |cons x cs ih=>
    intro vs fp h hx
    cases vs with
    |nil=>exact h.elim
    |cons v vs=>
     obtain⟨f1,f2,rfl,h1,h2⟩:=h
     simp only[bX,ae]at hx
     obtain⟨rfl,k2⟩:=ih vs f2 h2 hx.2
     have hx:=hx.1
     have one:f1=[]/\iq c' v x []:=by
      cases x with
      |sl fl e xs=>cases fl with|arg k=>exact⟨h1.1,rfl,by rw[hA,hw];exact h1.2⟩|own _=>cases hx|loc _ _=>cases hx|nest _ _ _ _ _ _=>cases hx|part _ _ _ _=>cases hx|fR _ _ _=>cases hx
      |int _ _=>exact sA h1 rfl
      |bool _=>exact sA h1 rfl
      |str _=>exact sA h1 rfl
      |fn _=>exact sA h1 rfl
      |kh=>cases hx
      |ptr _ _=>cases hx
      |Dc _ _ _ _ _=>cases hx
      |un=>cases hx
      |bot=>cases hx
     obtain⟨rfl,k1⟩:=one
     exact⟨rfl,[],[],rfl,k1,k2⟩
  obtain⟨e,k⟩:=key cs vs fp h hx;exact⟨e,vs,fS,k⟩
theorem VY (h:ew C g st a w []):∀(xs:aw Operand),xs.all (λx=>(st.rd x).KO)=true->qT C.A w (xs.map a.eval) (xs.map st.rd)
 |[],_=>trivial
 |x::xs,hf=>by simp only[bX,ae]at hf;exact⟨(arg_val (c:=db C g st w) (c':=gr C.A (λ_=>0) w) rfl rfl (h.rd x) hf.1).2,VY h xs hf.2⟩
theorem ao5 (Cq:∀f,iJ P f (Γ f)){o':Oper}(ho:o'.op=.call {callee:=.value f,args,argTypes:=ts})(hg:ew C g st a w []){k:Nat}(hf:st.rd f=.val false [.fn k])(hpr:(Γ k).pr=true){K:AS->ay R}(hk:afW Γ o' k args.toList st K=some r)(next:Act->World->Prop)(Q:Exit->Act->World->Prop)(ic:∀bU a' w',pc C bU a' w'->K bU=some r->next a' w'):o'.wp P a w next Q:=by
 have Ml:=hg.rd f;rw[hf]at Ml;have Ml:=(fb Ml).1;unfold afW at hk;split at hk
 ·rename_i d hd;split at hk
  ·rename_i GY;cases hc:args.toList.all (λx=>(st.rd x).KO)with
   |false=>rw[hc]at hk;cases hk
   |true=>
    rw[hc]at hk;simp only[ah]at hk;cases il:(Γ k).fn (args.toList.map st.rd)with
    |none=>rw[il]at hk;cases hk
    |some y=>
     rw[il]at hk;simp only[aa]at hk;cases hc2:((Γ k).back y).all AC.KO with
     |false=>rw[hc2]at hk;cases hk
     |true=>
      rw[hc2]at hk;simp only[ah]at hk;obtain⟨⟨fn,c,R9,W6,DJ⟩,_,_,_,Dd⟩:=Cq k _ y il;have Mj:=Dd hpr C.A w (args.toList.map a.eval) (λq b o hq=>Nat.lt_of_lt_of_le (C.hA q b o hq).1 hg.frame.size) (VY hg _ hc);have gE:(args.toList.map a.eval).toArray=args.map a.eval:=by apply fK;simp
      rw[gE]at Mj;have eU:(execOp a.eval o').run P w=.ok (.enter k (args.map a.eval)) w:=by simp[execOp,ho,resolve,Ml,Deferred.ofValue,invoke,callFunc,R9,W6];simpa using DJ
      unfold Oper.wp;rw[eU,Oper.upon_enter];refine Mj.mono ?_;rintro e w' ⟨b,arr,T,fr,hw,rfl,hb,kL,tN,fG,jH⟩;show next (a.put o'.dst (.pointer (some ⟨b,0,none⟩))) w'
      rw[ej]at GY;have GV:=na kL;have DK:∀b' x,g.eX b'=some x->b'≠b:=λb' x hx e=>by have:=(hg.gL b' x hx).1;omega
      have hr1:bO ⟨λb'=>if b'=b then 0 else g.hw b',λt=>if t=d then b else g.β t,C.A,g.hdr,nD st,st.ep,jF st,w'⟩ arr.toList ((Γ k).back y) []:=by
       have hv:gK (gr C.A hw w') (.agg arr.toList.toArray) (.val true ((Γ k).back y)) []:=⟨arr.toList,rfl,fG⟩
       obtain⟨_,vs,fS,h⟩:=arg_val (c:=gr C.A hw w') (c':=⟨λb'=>if b'=b then 0 else g.hw b',λt=>if t=d then b else g.β t,C.A,g.hdr,nD st,st.ep,jF st,w'⟩) rfl rfl hv hc2;have:arr.toList=vs:=by have fS:Value.agg arr.toList.toArray=.agg vs.toArray:=fS;simp only[Value.agg.injEq]at fS;simpa using congrArg Array.toList fS
       rw[this];exact h
      obtain⟨g',K5,h'⟩:=hg.ZZ d (cs:=(Γ k).back y) (arr:=arr) (T:=T) (fr:=fr) (fp:=[]) (w':=w') (bnew:=b) (hw':=λb'=>if b'=b then 0 else g.hw b') (.inr ⟨hb,GY⟩) ⟨jH.os,jH.tape,jH.output,jH.size,λb' ix _=>jH.block b' ix (λm=>m)⟩ kL tN GV (by simp) (λb' x hx _ hn=>by simp[hn]) (λb' o u ho hu=>by have ix:b'<w.heap.size:=World.block_lt_of_cell? w _ hu;exact⟨by simp[show b'≠b by omega];exact ho,Bo jH hu⟩) hr1 List.nodup_nil (by simp) (λb' ix=>by cases ix);have hdl:d<st.boxes.length:=(aC.1 GY).1;have hq:=h'.quiet (some d) (v:=.pointer (some ⟨b,0,none⟩)) (av:=.one (.ptr d 0)) (nq ⟨by simp[db,K5],⟨(Γ k).back y,by rw[kI];simp[hdl]⟩,rfl⟩);rw[hd];exact ic _ _ _ ⟨g',hq⟩ hk
  cases hk
 cases hk
theorem ak4 (Cq:∀f,iJ P f (Γ f)){o':Oper}(ho:o'.op=.call {callee:=.value f,args,argTypes:=ts})(h:pc C st a w){K:AS->ay R}(hk:E4 Γ o' f args.toList st K=some r)(next:Act->World->Prop)(Q:Exit->Act->World->Prop)(ic:∀bU a' w',pc C bU a' w'->K bU=some r->next a' w'):o'.wp P a w next Q:=by
 obtain⟨g,hg⟩:=h;unfold E4 at hk;split at hk
 ·rename_i k hf
  have Ml:=hg.rd f
  rw[hf]at Ml
  have Ml:=(fb Ml).1
  cases kq:(Γ k).bx with
  |true=>rw[kq]at hk;exact anM Cq ho hg hf kq hk next Q ic
  |false=>
  rw[kq]at hk
  simp only[af]at hk
  cases hpr:(Γ k).pr with
  |true=>rw[hpr]at hk;exact ao5 Cq ho hg hf hpr hk next Q ic
  |false=>
  rw[hpr]at hk
  simp only[af]at hk
  cases Q0:(Γ k).io with
  |true=>rw[Q0]at hk;cases hk
  |false=>
  rw[Q0]at hk
  simp only[af]at hk
  cases il:(Γ k).fn (args.toList.map λx=>((st.rd x).fresh st).asArg st.ep)with
  |none=>rw[il]at hk;cases hk
  |some y0=>
   rw[il]at hk
   simp only[aa]at hk
   obtain⟨⟨fn,c,R9,W6,DJ⟩,Dd,_⟩:=Cq k _ y0 il
   have Dd:=Dd Q0 kq
   have hk:K ((st.fX o'.dst).put o'.dst (((Γ k).res y0).E2 st.ep (st.iL o'.dst)))=some r:=by unfold kH.res;cases Q3:(Γ k).sel y0 with|true=>rw[Q3]at hk;exact hk|false=>rw[Q3]at hk;exact hk
   generalize hy0:(Γ k).res y0=y at hk Dd
   have Mj:=Dd (λ_ b o=>(db C g st w).S b o/\b<w.heap.size) w (args.toList.map a.eval) (λ_ _ _ h=>h.2) (VZ hg args.toList)
   have gE:(args.toList.map a.eval).toArray=args.map a.eval:=by apply fK;simp
   rw[gE]at Mj
   have eU:(execOp a.eval o').run P w=.ok (.enter k (args.map a.eval)) w:=by simp[execOp,ho,resolve,Ml,Deferred.ofValue,invoke,callFunc,R9,W6];simpa using DJ
   unfold Oper.wp
   rw[eU,Oper.upon_enter]
   refine Mj.mono ?_
   rintro e w' ⟨v,hw,fp,rfl,fG,GX,E7,jH⟩
   show next (a.put o'.dst v) w'
   let hw':Nat->Nat:=λb=>if b∈fp then hw b else g.hw b
   have abf:∀b,b<w.heap.size->b∉fp:=λb hb hm=>by have:=(E7 b hm).1;omega
   have hA':∀(hd:Nat->Value)(_:Bool)(b o:Nat),((db C g st w).S b o/\b<w.heap.size)->(db C {g with hw:=hw',hdr:=hd} (st.fX o'.dst) w').S b o:=by rintro hd _ b o ⟨hs,hb⟩;rcases hs with hs|hs;exact .inl hs;exact .inr (by simp only[db,hw',aG (abf b hb)];exact hs)
   have xI:∃hd,(∀t,nD st t->hd t=g.hdr t)/\gK (db C {g with hw:=hw',hdr:=hd} (st.fX o'.dst) w') v (y.E2 st.ep (st.iL o'.dst)) fp:=by
    have aiv:∀b∈fp,hw' b=hw b:=λb hb=>by simp[hw',hb]
    cases y with
    |val gg cs=>obtain⟨vs,fS,hr⟩:=fG;refine⟨rP g.hdr (st.iL o'.dst) vs,λt ht=>BN ht,vs,fS,?_⟩;have:=Cy (c:=db C {g with hw:=hw',hdr:=rP g.hdr (st.iL o'.dst) vs} (st.fX o'.dst) w') (mk:=st.iL o'.dst) (hA' _) 0 hr aiv (λi u hu t ht=>by rw[cx]at ht;exact⟨(qH ht).2.1,BM hu ht⟩);have Ac:(db C {g with hw:=hw',hdr:=rP g.hdr (st.iL o'.dst) vs} (st.fX o'.dst) w').ep=st.ep:=BI;rw[Ac]at this;exact this
    |xC ts=>obtain⟨ws,hv,hr⟩:=fG;obtain⟨all,Ij⟩:=Lk hr;refine⟨rP g.hdr (st.iL o'.dst) all,λt ht=>BN ht,ws,hv,?_⟩;have:=Ps (c:=db C {g with hw:=hw',hdr:=rP g.hdr (st.iL o'.dst) all} (st.fX o'.dst) w') (mk:=st.iL o'.dst) (hA' _) Ij 0 aiv (λi u hu t ht=>by rw[cx]at ht;exact⟨(qH ht).2.1,BM hu ht⟩);have Ac:(db C {g with hw:=hw',hdr:=rP g.hdr (st.iL o'.dst) all} (st.fX o'.dst) w').ep=st.ep:=BI;rw[Ac]at this;exact this
   obtain⟨hd,hhd,xI⟩:=xI
   obtain⟨g',oX⟩:=hg.PT o'.dst (hw':=hw') (hdr':=hd) (fp:=fp) (st1:=st.fX o'.dst) JV vW CA BI (λt ht=>⟨Et ht,hhd t ht⟩)
    ⟨jH.os,jH.tape,jH.output,jH.size,λb hb _=>jH.block b hb (λm=>m)⟩ (λb x hx _=>by simp[hw',abf b (hg.gL b x hx).1])
    (λb o u ho hu=>by have hb:b<w.heap.size:=World.block_lt_of_cell? w _ hu;exact⟨by simp[hw',abf b hb];exact ho,Bo jH hu⟩) xI GX (λb hb=>⟨(E7 b hb).2,.inr (E7 b hb).1⟩)
   exact ic _ _ _ ⟨g',oX⟩ hk
 cases hk
end Go.Dn
