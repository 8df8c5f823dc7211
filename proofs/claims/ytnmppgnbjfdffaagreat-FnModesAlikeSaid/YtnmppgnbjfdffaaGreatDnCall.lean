import Derived.Test.YtnmppgnbjfdffaaGreatDnOps8
/- A call by value: what a callee promises, and what the caller makes of it. -/
namespace Go.Dn
open Go.RowKit
variable {P:Program} {C:Ctx} {st:AS} {a:Act} {w:World} {R:Type} {r:R}
variable {x:AC} {args:Array Operand} {ts:Array TypeId} {Γ:zP} {g:Gh} {hw:Nat->Nat} {hdr:Nat->Value} {f:Operand} {c c':RC} {v:Value} {cs:ay AC} {d:aC Nat} {fp:fR} {all:jz}
def gC (A:Rg)(hw:Nat->Nat)(w:World):RC:=⟨hw,λ_=>0,A,λ_=>undef,λ_=>False,0,λ_=>False,w⟩
def qj (A:Rg)(w:World):jz->ay AV->Prop
 |[],[]=>True
 |v::vs,x::xs=>gW (gC A (λ_=>0) w) v x []/\qj A w vs xs
 |_,_=>False
def aoV (P:Program)(f:Nat)(F:kH)(y:F.R)(g:Bool)(cs:ay AC)(rest:ay AV):Prop:=
 ∀(A:Rg)(w:World)(v0:Value)(vs:jz)(hw:Nat->Nat)(fp:fR),(∀k b o,A k b o->b<w.heap.size/\b∉fp)->gW (gC A hw w) v0 (.val g cs) fp->fp.Nodup->(∀b∈fp,b<w.heap.size)->qj A w vs rest->
  Calls P f (v0::vs).toArray w λe w'=>∃v hw' fr kS,e=.returned v/\gW (gC A hw' w') v (F.av y) fr/\gW (gC A hw' w') v0 (.val g (F.back y)) kS/\kS.Nodup/\
   (∀b∈kS,b<w'.heap.size/\(b∈fp\/w.heap.size<=b))/\Fr (λb=>b∈fp) w w'
def akS (P:Program)(f:Nat)(F:kH)(y:F.R)(cs:ay AC)(rest:ay AV):Prop:=
 ∀(A:Rg)(w:World)(b:Nat)(vs:jz)(arr:Array Value)(T:TypeId)(fr:Nat×Nat)(hw:Nat->Nat)(fp:fR),(∀k b' o,A k b' o->b'<w.heap.size/\b'≠b/\b'∉fp)->
  w.heap[b]?=some (.cells arr T fr)->qh arr fr->bR (gC A hw w) arr.toList cs fp->fp.Nodup->b∉fp->(∀b'∈fp,b'<w.heap.size)->hw b=0->qj A w vs rest->
  Calls P f (.pointer (some ⟨b,0,none⟩)::vs).toArray w λe w'=>∃v hw' fv jJ T' JZ kS,e=.returned v/\gW (gC A hw' w') v (F.av y) fv/\w'.heap[b]?=some (.cells jJ T' JZ)/\qh jJ JZ/\
   bR (gC A hw' w') jJ.toList (F.back y) kS/\kS.Nodup/\b∉kS/\(∀b'∈kS,b'<w'.heap.size/\(b'∈fp\/w.heap.size<=b'))/\fv.Nodup/\(∀b'∈fv,b'<w'.heap.size/\(b'∈fp\/w.heap.size<=b')/\b'∉kS/\b'≠b)/\Fr (λb'=>b'=b\/b'∈fp) w w'
def ahY (P:Program)(f:Nat)(F:kH)(y:F.R)(xs:ay AV):Prop:=
 ∀(A:Rg)(w:World)(vs:jz),(∀k b o,A k b o->b<w.heap.size)->qj A w vs xs->
  Calls P f vs.toArray w λe w'=>∃b arr T fr hw,e=.returned (.pointer (some ⟨b,0,none⟩))/\w.heap.size<=b/\w'.heap[b]?=some (.cells arr T fr)/\qh arr fr/\bR (gC A hw w') arr.toList (F.back y) []/\Fr (λ_=>False) w w'
def iW (P:Program)(f:Nat)(F:kH):Prop:=
 ∀(xs:ay AV)(y:F.R),F.fn xs=some y->
  (∃fn c,P.funcs[f]?=some fn/\fn.body=some c/\(fn.name== "runtime.NumGoroutine")=false)/\
  (F.io=false->F.bx=false->∀(A:Rg)(w:World)(vs:jz),(∀k b o,A k b o->b<w.heap.size)->qj A w vs xs->
    Calls P f vs.toArray w λe w'=>∃v hw fp,e=.returned v/\gW (gC A hw w') v (F.res y) fp/\fp.Nodup/\(∀b∈fp,w.heap.size<=b/\b<w'.heap.size)/\Fr (λ_=>False) w w')/\
  (F.io=true->∀g cs rest,xs=.val g cs::rest->aoV P f F y g cs rest)/\
  (F.bx=true->∀cs rest,xs=.val true cs::rest->akS P f F y cs rest)/\
  (F.pr=true->ahY P f F y xs)
theorem rA (h:iI c v x fp)(hf:x.kc=true):fp=[]/\iI c' v x []:=by cases x with|int k n=>exact⟨h.2,h.1,rfl⟩|bool b=>exact⟨h.2,h.1,rfl⟩|str s=>exact⟨h.2,h.1,rfl⟩|fn f=>exact⟨h.2,h.1,rfl⟩|_=>cases hf
theorem Gf {c':RC}:∀{vs:jz}{xs:ay AC}{fp:fR},bR c vs xs fp->xs.all AC.kc=true->fp=[]/\bR c' vs xs []
 |[],[],_,h,_=>⟨h,rfl⟩
 |_::_,_::_,_,h,hf=>by obtain⟨f1,f2,rfl,h1,h2⟩:=h;simp only[cv,ab]at hf;obtain⟨rfl,k1⟩:=rA (c':=c') h1 hf.1;obtain⟨rfl,k2⟩:=Gf (c':=c') h2 hf.2;exact⟨rfl,[],[],rfl,k1,k2⟩
 |[],_::_,_,h,_=>h.elim
 |_::_,[],_,h,_=>h.elim
theorem Ty:∀{ws:jz}{ts:ay (Bool×ay AC)}{fp:fR},gW.qM c ws ts fp->(ts.all λx=>x.2.all AC.kc)=true->gW.qM c' ws ts []
 |[],[],_,_,_=>rfl
 |_::_,_::_,_,h,hf=>by obtain⟨f1,f2,rfl,⟨vs,hv,h1⟩,h2⟩:=h;simp only[cv,ab]at hf;exact⟨[],[],rfl,⟨vs,hv,(Gf h1 hf.1).2⟩,Ty h2 hf.2⟩
 |[],_::_,_,h,_=>h.elim
 |_::_,[],_,h,_=>h.elim
theorem Mi {x:AV}(h:gW c v x fp)(hf:x.kc=true):gW c' v x []:=by
 cases x with
 |val g cs=>obtain⟨vs,hv,h⟩:=h;exact⟨vs,hv,(Gf h hf).2⟩
 |wh ts=>obtain⟨ws,hv,h⟩:=h;exact⟨ws,hv,Ty h hf⟩
theorem Yl {A:Rg}:∀(os ss:ay AC){r:ay AC}{vs us:jz}{f:fR},oh os ss=some r->bR c vs os []->bR c us ss f->bR (gC A c.hw c.w) vs r f:=by
 intro os;induction os with
 |nil=>intro ss r vs us f h hv hu;cases ss with|cons _ _=>simp[oh]at h|nil=>simp[oh]at h;subst h;cases vs with|cons _ _=>exact hv.elim|nil=>cases us with|cons _ _=>exact hu.elim|nil=>exact hu
 |cons o os ih=>
  intro ss r vs us f h hv hu;cases vs with
  |nil=>exact hv.elim
  |cons v vs=>
   cases ss with
   |nil=>unfold oh at h;split at h<;>first|contradiction|cases h
   |cons s ss=>
    cases us with
    |nil=>exact hu.elim
    |cons u us=>
     obtain⟨g1,g2,hg,hv1,RQ⟩:=hv;have e1:g1=[]:=by have:=hg.symm;simp at this;exact this.1
     have e2:g2=[]:=by have:=hg.symm;simp at this;exact this.2
     subst e1;subst e2;obtain⟨f1,f2,rfl,hu1,hu2⟩:=hu;have fl:∀{x:AC}{r'},x.kc=true->s.kc=true->o=x->oh os ss=some r'->r=x::r'->bR (gC A c.hw c.w) (v::vs) r (f1++f2):=by rintro x r' hx hs rfl hr rfl;obtain⟨rfl,_⟩:=rA (c':=c) hu1 hs;exact⟨[],f2,rfl,(rA hv1 hx).2,ih ss hr RQ hu2⟩
     unfold oh at h;split at h;contradiction;rename_i ep rt t e0 xs0 os' t' e xs ss' h1 h2;injection h1 with h1 N9;subst h1;subst N9;injection h2 with h2 SN;subst h2;subst SN;cases ht:(t'==t)with
     |false=>rw[ht]at h;cases h
     |true=>
      have:t'=t:=by simpa using ht
      subst this;rw[ht]at h;simp only[ah]at h;obtain⟨r',hr,h⟩:=aW.1 h;cases h;have SQ:=(hv1.2.2.2.2 rt t' rfl).2;have RP:=(hu1.2 t' rfl).2;have huv:u=v:=RP.trans SQ.symm;subst huv;exact⟨f1,f2,rfl,⟨hu1.1,by simp⟩,ih _ hr RQ hu2⟩
     rename_i k n os' k' n' ss' h1 h2;injection h1 with h1 N9;subst N9;injection h2 with h2 SN;subst h2;subst SN;obtain⟨r',hr,h⟩:=aW.1 h;cases h;exact fl (x:=.int k n) rfl rfl h1 hr rfl;rename_i k os' k' ss' h1 h2;injection h1 with h1 N9;subst N9;injection h2 with h2 SN;subst h2;subst SN;obtain⟨r',hr,h⟩:=aW.1 h;cases h;exact fl (x:=.bool k) rfl rfl h1 hr rfl;rename_i k os' k' ss' h1 h2;injection h1 with h1 N9;subst N9;injection h2 with h2 SN;subst h2;subst SN;obtain⟨r',hr,h⟩:=aW.1 h;cases h;exact fl (x:=.str k) rfl rfl h1 hr rfl;cases h
theorem Wd (h:iI c v x fp):iI (gC (λ_ b o=>c.S b o/\b<c.w.heap.size) (λ_=>0) c.w) v (x.asArg c.ep) []:=by
 have hS:∀{e:CT}{xs:ay e.D},jP c.w c.S (.sl e) [v] xs->jP c.w (λb o=>c.S b o/\b<c.w.heap.size) (.sl e) [v] xs:=λhr=>
  jP.mono (λb o u hs hu=>⟨⟨hs,World.block_lt_of_cell? c.w _ hu⟩,hu⟩) hr
 cases x with|int k n=>exact⟨h.1,rfl⟩|bool b=>exact⟨h.1,rfl⟩|str s=>exact⟨h.1,rfl⟩|kx=>exact⟨h.1,rfl⟩|fn f=>exact⟨h.1,rfl⟩|ptr s off=>exact rfl|un=>exact rfl|bot=>exact rfl|BA fl e y i off=>exact rfl|sl fl e xs=>cases fl with|nest _ _ _ _ _ _=>exact rfl|part _ _ _ _=>exact rfl|gj _ _ _=>exact rfl|own t=>exact⟨rfl,hS (gi.rep (λb o ho=> .inr ho) h.1)⟩|arg k=>exact⟨rfl,hS (jP.mono (λb o u hs hu=>⟨.inl ⟨k,hs⟩,hu⟩) h.2)⟩|loc ep pv=>simp only[AC.asArg];split;rename_i he;exact⟨rfl,hS (h.2.2.2.1 (by simpa using he))⟩;exact rfl
theorem JT:∀{vs:jz}{xs:ay AC}{fp:fR},bR c vs xs fp->bR (gC (λ_ b o=>c.S b o/\b<c.w.heap.size) (λ_=>0) c.w) vs (xs.map (AC.asArg c.ep)) []
 |[],[],_,_=>rfl
 |_::_,_::_,_,h=>by obtain⟨f1,f2,rfl,h1,h2⟩:=h;exact⟨[],[],rfl,Wd h1,JT h2⟩
 |[],_::_,_,h=>h.elim
 |_::_,[],_,h=>h.elim
theorem aam {x:AV}(h:gW c v x fp):gW (gC (λ_ b o=>c.S b o/\b<c.w.heap.size) (λ_=>0) c.w) v (x.asArg c.ep) []:=by
 cases x with
 |val g cs=>obtain⟨vs,hv,h⟩:=h;exact⟨vs,hv,JT h⟩
 |wh ts=>exact gW.bot _ _
theorem S3 (h:eK C g st a w []):∀(args:ay Operand),
 qj (λ_ b o=>(dk C g st w).S b o/\b<w.heap.size) w (args.map a.eval) (args.map λx=>((st.rd x).fresh st).asArg st.ep)
 |[]=>trivial
 |x::xs=>⟨aam (c:=dk C g st w) (h.fresh (h.rd x)),S3 h xs⟩
theorem We {A':Rg}{tag:aC Nat}(h:iI (gC A' hw c.w) v x fp)(hA:∀k b o,A' k b o->c.S b o)(Fb:∀b∈fp,c.hw b=hw b)(ht:∀t,tag=some t->c.iss t/\v=c.hdr t):iI c v (x.Dr c.ep tag) fp:=by
 cases x with
 |int k n=>exact h
 |bool b=>exact h
 |str s=>exact h
 |kx=>exact h
 |fn f=>exact h
 |ptr s off=>exact h.2.2
 |un=>exact h
 |bot=>exact h
 |BA fl e y i off=>cases fl with|own t=>exact h.elim|nest _ _ _ _ _ _=>exact h.elim|part _ _ _ _=>exact h.elim|gj _ _ _=>exact h.elim|arg _=>exact h.1|loc ep pv=>exact h.1
 |sl fl e xs=>
  cases fl with
  |nest _ _ _ _ _ _=>exact h.1
  |part _ _ _ _=>exact h.1
  |gj _ _ _=>obtain⟨_,⟨k,hk,h3⟩,_⟩:=h;exact⟨λq hq=>(by cases hq),⟨k,hk,h3.mono (λb hb=>⟨rfl,Fb b hb⟩)⟩,by simp⟩
  |own t=>exact⟨gi.mono h.1 (λb hb=>⟨rfl,Fb b hb⟩),ht⟩
  |loc ep pv=>exact h.1
  |arg _=>have hr:jP c.w c.S (.sl e) [v] xs:=jP.mono (λb o u hs hu=>⟨hA _ b o hs,hu⟩) h.2;refine⟨h.1,aV _,?_,λ_=>hr,by simp⟩;obtain⟨u,hu,k⟩:=hr;simp at hu;subst hu;rcases k with⟨⟨ad,rfl⟩,rfl⟩|⟨b,o,cap,rfl,_⟩;exact⟨_,_,_,rfl,rfl⟩;exact⟨_,_,_,rfl,rfl⟩
theorem AL {A':Rg}{mk:Nat->aC Nat}(hA:∀k b o,A' k b o->c.S b o):∀{vs:jz}{xs:ay AC}{fp:fR}(j:Nat),bR (gC A' hw c.w) vs xs fp->(∀b∈fp,c.hw b=hw b)->
 (∀i v,vs[i]?=some v->∀t,mk (j+i)=some t->c.iss t/\v=c.hdr t)->bR c vs (H6 c.ep mk j xs) fp
 |[],[],_,_,h,_,_=>h
 |v::_,_::_,_,j,h,hh,hm=>by obtain⟨f1,f2,rfl,h1,h2⟩:=h;exact⟨f1,f2,rfl,We h1 hA (λb hb=>hh b (aR _ hb)) (λt ht=>hm 0 v rfl t ht),AL hA (j+1) h2 (λb hb=>hh b (bj _ hb)) (λi u hu t ht=>hm (i+1) u (by simpa using hu) t (by rwa[show j+(i+1)=j+1+i by omega]))⟩
 |[],_::_,_,_,h,_,_=>h.elim
 |_::_,[],_,_,h,_,_=>h.elim
inductive Leaves (A:Rg) (hw:Nat->Nat) (w:World):List Value->List (Bool×List AC)->List Nat->List Value->Prop
 |nil:Leaves A hw w [] [] [] []
 |cons {v:Value} {vs:List Value} {g:Bool} {cs:List AC} {ts:List (Bool×List AC)} {f1 f2:List Nat} {us all:List Value} (gm:Cut g v us) (hr:bR (gC A hw w) us cs f1) (h:Leaves A hw w vs ts f2 all):
  Leaves A hw w (v::vs) ((g,cs)::ts) (f1++f2) (us++all)
theorem I8 {A:Rg}{w:World}:∀{ws:jz}{ts:ay (Bool×ay AC)}{fp:fR},gW.qM (gC A hw w) ws ts fp->∃all,Leaves A hw w ws ts fp all
 |[],[],_,h=>by cases h;exact⟨[],.nil⟩
 |_::_,(g,cs)::_,_,h=>by obtain⟨f1,f2,rfl,⟨us,gm,hr⟩,h2⟩:=h;obtain⟨all,uJ⟩:=I8 h2;exact⟨us++all,.cons gm hr uJ⟩
 |[],_::_,_,h=>h.elim
 |_::_,[],_,h=>h.elim
theorem MW {A':Rg}{mk:Nat->aC Nat}(hA:∀k b o,A' k b o->c.S b o){ws:jz}{ts:ay (Bool×ay AC)}(h:Leaves A' hw c.w ws ts fp all): ∀j,(∀b∈fp,c.hw b=hw b)->(∀i v,all[i]?=some v->∀t,mk (j+i)=some t->c.iss t/\v=c.hdr t)->gW.qM c ws (Yj c.ep mk j ts) fp:=by induction h with|nil=>intro j _ _;exact rfl| @cons v vs g cs ts f1 f2 us all gm hr h ih=>intro j hh hm;have hl:=hr.length;refine⟨f1,f2,rfl,⟨us,gm,AL hA j hr (λb hb=>hh b (aR _ hb)) (λi u hu t ht=>?_)⟩,ih _ (λb hb=>hh b (bj _ hb)) (λi u hu t ht=>?_)⟩;exact hm i u (by rw[bp (aB.1 hu).1];exact hu) t ht;have hl':us.length=cs.length:=hl;refine hm (us.length+i) u (by rw[bz (by omega)];simpa using hu) t ?_;rw[<-fV,hl'];exact ht
def qS (hdr:Nat->Value)(mk:Nat->aC Nat)(all:jz):Nat->Value:=λu=>if mk (u/3%4096)=some u then(all[u/3%4096]?).getD undef else hdr u
theorem Ad {t:Nat}(h:nq st t):qS hdr (st.je d) all t=hdr t:=by unfold qS;rw[aH];intro e;exact(pX e).1 h
theorem Ac {i t:Nat}(hv:all[i]?=some v)(h:st.je d i=some t):v=qS hdr (st.je d) all t:=by
 obtain⟨_,_,d',rfl,ht,hi⟩:=pX h;have agK:t/3%4096=i:=by rw[ht,Im];omega
 unfold qS;rw[agK,aF h,hv];rfl
theorem Yw {vs us:jz}{seg:ay AC}{f1 f2 f3:fR}{off n:Nat}(hus:us=(vs.drop off).take n)(hln:us.length=n)(r1:bR c' (vs.take off) (cs.take off) f1)(r2:bR c' us seg f2)(r3:bR c' (vs.drop (off+n)) (cs.drop (off+n)) f3): bR c' vs (eX cs off seg) (f1++f2++f3):=by
 have zI:=r2.length;have e:vs=vs.take off++us++vs.drop (off+n):=by rw[hus,aD,<-eO,cz,cz]
 rw[e,eX,show seg.length=n by omega];exact bR.append (bR.append r1 r2) r3
theorem OP:∀(os ss:ay AC){r:ay AC},oh os ss=some r->ss.length=os.length:=by
 intro os
 induction os with
 |nil=>intro ss r h;cases ss with
  |nil=>rfl
  |cons _ _=>simp[oh]at h
 |cons o os ih=>
  intro ss r h
  cases ss with
  |nil=>unfold oh at h;split at h<;>first|contradiction|cases h
  |cons s ss=>
   unfold oh at h
   split at h
   ·contradiction
   ·rename_i h1 h2
    injection h1 with h1 N9;subst N9
    injection h2 with h2 SN;subst SN
    rw[Bool.cond_eq_ite]at h
    split at h
    ·obtain⟨r',hr,h⟩:=aW.1 h
     simp[ih _ hr]
    ·cases h
   all_goals first
    |cases h
    |(rename_i h1 h2
      injection h1 with h1 N9;subst N9
      injection h2 with h2 SN;subst SN
      obtain⟨r',hr,h⟩:=aW.1 h
      simp[ih _ hr])
theorem Ga {A':Rg}{mk:Nat->aC Nat}{k:Bool}(hA:A' true=c.A k):∀{vs:jz}{xs:ay AC}{fp:fR}(j:Nat),bR (gC A' hw c.w) vs xs fp->xs.all (AC.yz true)=true->
 (∀b∈fp,c.hw b=hw b)->(∀i v,vs[i]?=some v->∀t,mk (j+i)=some t->c.iss t/\v=c.hdr t)->bR c vs (pQ k mk j xs) fp
 |[],[],_,_,h,_,_,_=>h
 |v::_,x::_,_,j,h,oC,hh,hm=>by
  obtain⟨f1,f2,rfl,h1,h2⟩:=h;simp only[cv,ab]at oC;refine⟨f1,f2,rfl,?_,Ga hA (j+1) h2 oC.2 (λb hb=>hh b (bj _ hb)) (λi u hu t ht=>hm (i+1) u (by simpa using hu) t (by rwa[show j+(i+1)=j+1+i by omega]))⟩;have Fb:∀b∈f1,c.hw b=hw b:=λb hb=>hh b (aR _ hb);have ht:∀t,mk j=some t->c.iss t/\v=c.hdr t:=λt ht=>hm 0 v rfl t ht;have oC:=oC.1;cases x with
  |sl fl e xs=>
   cases fl with
   |own t=>exact⟨gi.mono h1.1 (λb hb=>⟨rfl,Fb b hb⟩),ht⟩
   |arg k'=>
    have hk:k'=true:=by simpa[AC.yz]using oC
    subst hk;exact⟨h1.1,by rw[<-hA];exact h1.2⟩
   |loc _ _=>cases oC
   |nest _ _ _ _ _ _=>cases oC
   |part _ _ _ _=>cases oC
   |gj _ _ _=>cases oC
  |int _ _=>exact h1
  |bool _=>exact h1
  |str _=>exact h1
  |fn _=>exact h1
  |kx=>cases oC
  |ptr _ _=>cases oC
  |BA _ _ _ _ _=>cases oC
  |un=>cases oC
  |bot=>cases oC
 |[],_::_,_,_,h,_,_,_=>h.elim
 |_::_,[],_,_,h,_,_,_=>h.elim
theorem Io {A':Rg}{w:World}{k:Bool}:∀{cs:ay AC},cs.all (AC.yz k)=true->∀{c:RC}{vs:jz}{fp:fR},bR c vs cs fp->c.w=w->c.hw=hw->A' true=c.A k->bR (gC A' hw w) vs (cs.map AC.Sz) fp
 |[],_,c,vs,fp,h,_,_,_=>by cases vs with|nil=>exact h|cons _ _=>exact h.elim
 |x::cs,oC,c,vs,fp,h,SP,FC,hA=>by
  cases vs with
  |nil=>exact h.elim
  |cons v vs=>
   obtain⟨f1,f2,rfl,h1,h2⟩:=h;simp only[cv,ab]at oC;refine⟨f1,f2,rfl,?_,Io oC.2 h2 SP FC hA⟩;have oC:=oC.1;cases x with
   |sl fl e xs=>
    cases fl with
    |own t=>exact⟨by have:=h1.1;rw[SP,FC]at this;exact this,by simp⟩
    |arg k'=>
     have hk:k'=k:=by simpa[AC.yz]using oC
     subst hk;exact⟨h1.1,by have:=h1.2;rw[SP,<-hA]at this;exact this⟩
    |loc _ _=>cases oC
    |nest _ _ _ _ _ _=>cases oC
    |part _ _ _ _=>cases oC
    |gj _ _ _=>cases oC
   |int _ _=>exact h1
   |bool _=>exact h1
   |str _=>exact h1
   |fn _=>exact h1
   |kx=>cases oC
   |ptr _ _=>cases oC
   |BA _ _ _ _ _=>cases oC
   |un=>cases oC
   |bot=>cases oC
theorem PY (h:eK C g st a w [])(s:Nat){A':Rg}(hA:∀b o,(dk C g st w).S b o/\b<w.heap.size/\g.fe b≠some (.box s)->A' false b o):∀(xs:ay Operand),xs.all (Ci st)=true->
 qj A' w (xs.map a.eval) (xs.map (Bf st))
 |[],_=>trivial
 |x::xs,hx=>by
  simp only[cv,ab]at hx;refine⟨?_,PY h s hA xs hx.2⟩;have hx:=hx.1;cases x with
  |const _=>exact Mi (h.rd _) hx
  |func _=>exact Mi (h.rd _) hx
  |global _=>exact Mi (h.rd _) hx
  |tmp t=>
   have iL:∀(t0:Nat){e:CT}{v:Value}{xs:ay e.D}{fp:fR},gi g.hw w (.sl e) [v] xs fp->(∀b∈fp,g.fe b=some (.slot t0))->jP w (A' false) (.sl e) [v] xs:=by
    intro t0 e v xs fp h1 hl;have h3:gi (λb=>if b∈fp then g.hw b else 0) w (.sl e) [v] xs fp:=gi.mono h1 (λb hb=>⟨rfl,by simp[hb]⟩)
    exact gi.rep (λb o ho=>by
     by_cases hb:b∈fp;have ho:o<g.hw b:=by simpa[hb]using ho
     have PC:=hl b hb;exact hA b o ⟨.inr ho,(h.gY b _ PC).1,by rw[PC];simp⟩;simp[hb]at ho) h3
   obtain⟨fp,hr,hn,hl⟩:=h.slot t;simp only[Ci]at hx;show gW _ (a.tmps.getD t undef) (Bf st (.tmp t)) _;simp only[Bf];cases hv:st.get t with
   |wh _=>rw[hv]at hx;cases hx
   |val gg cs=>
    rw[hv]at hx hr;simp only at hx;obtain⟨vs,gm,hr⟩:=hr
    have key:∀(cs:ay AC)(vs:jz)(fp:fR),(cs.map st.OE).all AC.IG=true->(∀b∈fp,g.fe b=some (.slot t))->bR (dk C g st w) vs cs fp->
     bR (gC A' (λ_=>0) w) vs (cs.map st.OE) []:=by
     intro cs
     induction cs with
     |nil=>intro vs fp _ _ h;cases vs with
      |nil=>rfl
      |cons _ _=>exact h.elim
     |cons c cs ih=>
      intro vs fp hc hl hr
      cases vs with
      |nil=>exact hr.elim
      |cons v vs=>
       obtain⟨f1,f2,rfl,h1,h2⟩:=hr
       simp only[cZ,cv,ab]at hc
       refine⟨[],[],rfl,?_,ih vs f2 hc.2 (λb hb=>hl b (bj _ hb)) h2⟩
       have hc:=hc.1
       cases c with
       |sl fl e xs=>
        cases fl with
        |own tag=>exact⟨rfl,iL t h1.1 (λb hb=>hl b (aR _ hb))⟩
        |arg k=>exact⟨rfl,jP.mono (λb o u hs hu=>⟨hA b o ⟨.inl ⟨k,hs⟩,World.block_lt_of_cell? w _ hu,λhb=>h.MU hb k o hs⟩,hu⟩) h1.2⟩
        |loc ep pv=>
         cases pv with
         |none=>cases hc
         |some q=>
          obtain⟨r,tg⟩:=q
          cases r with
          |box _ _=>cases hc
          |io _=>cases hc
          |slot b j=>
           have RQ:=(h1.2.2.2.2 (.slot b j) tg rfl).2
           simp only[AS.OE]at hc⊢
           cases VZ:st.fK (.slot b j)with
           |none=>rw[VZ]at hc;cases hc
           |some c0=>
            rw[VZ]at hc
            split at hc
            ·rename_i t' e' ys SO
             split at hc
             ·rename_i ht
              subst ht
              cases SO
              rw[aF rfl]
              obtain⟨fp2,Ow,_,zI⟩:=h.slot b
              simp only[AS.fK]at VZ
              cases hgb:st.get b with
              |wh _=>rw[hgb]at VZ;cases VZ
              |val g2 DH=>
               rw[hgb]at VZ Ow
               simp only at VZ
               obtain⟨vs2,_,Ow⟩:=Ow
               rw[eH]at VZ
               obtain⟨v2,f3,_,MB,qc⟩:=Ow.get j _ VZ
               have apO:v=v2:=by have:=(MB.2 t' rfl).2;rw[RQ,this]
               rw[apO]
               exact⟨rfl,iL b MB.1 (λb' im=>zI b' (qc b' im))⟩
             ·cases hc
            ·cases hc
        |nest _ _ _ _ _ _=>cases hc
        |part _ _ _ _=>cases hc
        |gj _ _ _=>cases hc
       |int _ _=>exact⟨h1.1,rfl⟩
       |bool _=>exact⟨h1.1,rfl⟩
       |str _=>exact⟨h1.1,rfl⟩
       |fn _=>exact⟨h1.1,rfl⟩
       |kx=>cases hc
       |ptr _ _=>cases hc
       |BA _ _ _ _ _=>cases hc
       |un=>cases hc
       |bot=>cases hc
    exact⟨vs,gm,key cs vs fp hx hl hr⟩
theorem eK.agu (h:eK C g st a w [])(s:Nat)(kC:st.boxes[s]?=some (some cs)): ∃arr T fr fp,w.heap[g.β s]?=some (.cells arr T fr)/\qh arr fr/\bR (dk C g st w) arr.toList cs fp/\fp.Nodup/\g.β s∉fp/\(∀b∈fp,b<w.heap.size)/\g.hw (g.β s)=0/\(∀b,b=g.β s\/b∈fp->g.fe b=some (.box s))/\ ∀(w':World)(hw':Nat->Nat)(jJ:Array Value)(T':TypeId)(JZ:Nat×Nat)(qO:ay AC)(kS fv:fR)(A':Rg)(k:Bool),Fr (λb=>b=g.β s\/b∈fp) w w'->w'.heap[g.β s]?=some (.cells jJ T' JZ)->qh jJ JZ-> A' true=C.A k->bR (gC A' hw' w') jJ.toList qO kS->qO.all (AC.yz true)=true->kS.Nodup->g.β s∉kS->(∀b∈kS,b<w'.heap.size/\(b∈fp\/w.heap.size<=b))-> (∀b∈fv,b<w'.heap.size/\(b∈fp\/w.heap.size<=b)/\b∉kS/\b≠g.β s)-> ∃g',eK C g' (YR st s (pQ k (st.je (some s)) 0 qO)) a w' []/\(∀b∈fv,g'.fe b=some (.hand 0)/\g'.hw b=hw' b)/\∀b,b<w.heap.size->g.fe b≠some (.box s)->g'.hw b=g.hw b:=by
 obtain⟨arr,T,fr,fp,kU,sE,hr,hn,wA,hl,GQ,GS⟩:=h.boxes s cs kC;have yL:s<st.boxes.length:=(aB.1 kC).1;have Mu:∀b,b=g.β s\/b∈fp->g.fe b=some (.box s):=by rintro b (rfl|hb);exact GQ;exact hl b hb
 refine⟨arr,T,fr,fp,kU,sE,hr,hn,wA,λb hb=>(h.gY b _ (hl b hb)).1,GS,Mu,?_⟩;intro w' hw' jJ T' JZ qO kS fv A' k jQ Hj T5 hA' wB ajr Cx Hl IW J7;let bx':ay AC:=pQ k (st.je (some s)) 0 qO;let bX:AS:=YR st s bx';let hw2:Nat->Nat:=λb=>if b∈kS\/b∈fv then hw' b else if b=g.β s then 0 else g.hw b
 let aeM:Nat->aC kI:=λb=>if b=g.β s\/b∈kS then some (.box s) else if b∈fv then some (.hand 0) else g.fe b
 let g':Gh:=⟨hw2,g.β,aeM,qS g.hdr (st.je (some s)) jJ.toList⟩
 have ud:bX.boxes=st.boxes.set s (some bx'):=by show((st.fD s (some bx')).gv (some s)).boxes=_;rw[AN,kQ]
 have MC:bX.slots=st.slots:=by show((st.fD s (some bx')).gv (some s)).slots=_;rw[uC];rfl
 have Ot:bX.io=st.io:=by show((st.fD s (some bx')).gv (some s)).io=_;rw[HJ];rfl
 have KQ:∀t,nq st t->nq bX t:=λt ht=>by have h1:nq (st.fD s (some bx')) t:=ht;exact CU (d:=some s) h1
 have hpr:∀t,jO st t->jO bX t:=by rintro t ⟨c0,SO⟩;by_cases tz:s=t;subst tz;exact⟨bx',by rw[ud];simp[yL]⟩;exact⟨c0,by rw[ud,aJ tz];exact SO⟩
 have T0:∀b,b<w.heap.size->g.fe b≠some (.box s)->b∉kS/\b∉fv/\b≠g.β s:=by intro b hb PC;refine⟨λhm=>?_,λhm=>?_,λhm=>PC (Mu b (.inl hm))⟩;rcases(IW b hm).2 with h2|h2;exact PC (Mu b (.inr h2));omega;rcases(J7 b hm).2.1 with h2|h2;exact PC (Mu b (.inr h2));omega
 have sM:∀b x,x≠ .box s->g.fe b=some x->aeM b=some x/\w'.heap[b]?=w.heap[b]?/\hw2 b=g.hw b:=by intro b x hx hb;have FL:=(h.gY b x hb).1;have hnm:¬(b=g.β s\/b∈fp):=λhm=>hx (by have:=Mu b hm;rw[hb]at this;simpa using this);obtain⟨n1,n2,n3⟩:=T0 b FL (by rw[hb];simpa using hx);refine⟨?_,jQ.block b FL hnm,?_⟩;show(if b=g.β s\/b∈kS then _ else if b∈fv then _ else _)=_;rw[aH (by rintro(h1|h1);exact n3 h1;exact n1 h1),aH n2];exact hb;show(if b∈kS\/b∈fv then _ else if b=g.β s then _ else _)=_;rw[aH (by rintro(h1|h1);exact n1 h1;exact n2 h1),aH n3]
 have hcA:∀k b o u,C.A k b o->w.cell? ⟨b,o,none⟩=some u->w'.cell? ⟨b,o,none⟩=some u:=by intro k b o u hA hu;have hb:b<w.heap.size:=World.block_lt_of_cell? w _ hu;rw[World.cell?_of_block (a:=⟨b,o,none⟩) (jQ.block b hb (λhm=>h.MU (Mu b hm) k o hA))];exact hu
 have hle:(dk C g st w).Le (dk C g' bX w'):=⟨rfl,λt ht=>⟨KQ t ht,Ad ht⟩,hcA,Nat.le_succ _,λt ht=>⟨hpr t ht,rfl⟩,λhe=>absurd he (Nat.succ_ne_self _)⟩
 refine⟨g',h.step (λx=>x≠ .box s) hle h.defers ?_ ?_ ?_ ?_ (λb x hk hb=>sM b x hk hb) ?_ ?_ (λk u bv hk=>by simp at hk) (.inl ⟨by simp,Ot⟩),λb hb=>?_,λb hb PC=>?_⟩;rw[MC];exact h.size;rw[MC,ud,aK];exact h.bsize;refine h.frame.trans jQ (λb hb hm=>?_);rcases(h.gY b _ (Mu b hm)).2 with h2|h2;omega;exact h2;intro b x hx;have AG:(if b=g.β s\/b∈kS then some (kI.box s) else if b∈fv then some (.hand 0) else g.fe b)=some x:=hx;have hz:=jQ.size;have hold:b∈fp\/w.heap.size<=b->C.w0.heap.size<=b\/C.M b:=by rintro(h2|h2);exact(h.gY b _ (hl b h2)).2;exact .inl (bT h.frame.size h2)
 split at AG;rename_i hm;rcases hm with rfl|hm;have:=h.gY _ _ GQ;exact⟨by omega,this.2⟩;exact⟨(IW b hm).1,hold (IW b hm).2⟩;split at AG;rename_i hm;exact⟨(J7 b hm).1,hold (J7 b hm).2.1⟩;have:=h.gY b x AG;exact⟨by omega,this.2⟩;intro i av hi;rw[MC]at hi;exact .inl ⟨by simp,hi,rfl⟩;intro t DH hb;rw[ud]at hb;by_cases tz:t=s;subst tz;rw[bH]at hb;simp only[cc,yL]at hb;simp at hb;subst hb;refine .inr ⟨jJ,T',JZ,kS,Hj,T5,?_,Cx,Hl,λb hb=>?_,?_,?_⟩
 have:=Ga (c:=dk C g' bX w') (A':=A') (hw:=hw') (mk:=st.je (some t)) (k:=k) hA' 0 (vs:=jJ.toList) (xs:=qO) (fp:=kS) wB ajr
  (λb hb=>by show(if b∈kS\/b∈fv then _ else _)=_;rw[aF (.inl hb)])
  (λi u hu q hq=>by
   rw[cK]at hq;have hm:=pX hq;have hm2:nq bX q:=by have h1:st.je (some t) i=some q:=hq;have h2:(st.fD t (some bx')).je (some t) i=some q:=h1;exact(pX h2).2.1
   exact⟨hm2,Ac hu hq⟩)
 exact this;show(if b=g.β t\/b∈kS then _ else _)=_;rw[aF (.inr hb)];show(if g.β t=g.β t\/g.β t∈kS then _ else _)=_;rw[aF (.inl rfl)];show(if g.β t∈kS\/g.β t∈fv then _ else if g.β t=g.β t then _ else _)=_;rw[aH (by rintro(h1|h1);exact Hl h1;exact(J7 _ h1).2.2.2 rfl),aF rfl];rw[aJ (cr tz)]at hb;exact .inl ⟨by simpa using tz,hb,rfl⟩;obtain⟨_,_,h3,h4⟩:=J7 b hb;refine⟨?_,?_⟩;show(if b=g.β s\/b∈kS then _ else if b∈fv then _ else _)=_;rw[aH (by rintro(h1|h1);exact h4 h1;exact h3 h1),aF hb];show(if b∈kS\/b∈fv then _ else _)=_;rw[aF (.inr hb)];obtain⟨n1,n2,n3⟩:=T0 b hb PC;show(if b∈kS\/b∈fv then _ else if b=g.β s then _ else _)=_;rw[aH (by rintro(h1|h1);exact n1 h1;exact n2 h1),aH n3]
theorem QU:∀{vs:jz}{cs:ay AC}{fp:fR},bR c vs cs fp->cs.all AC.GY=true->fp=[]
 |[],[],_,h,_=>h
 |[],_::_,_,h,_=>h.elim
 |_::_,[],_,h,_=>h.elim
 |v::vs,x::cs,fp,h,hx=>by
  obtain⟨f1,f2,rfl,h1,h2⟩:=h;simp only[cv,ab]at hx;rw[QU h2 hx.2,bA];have hx:=hx.1;cases x with
  |sl fl e xs=>cases fl<;>first|exact h1.1|cases hx
  |int k n=>exact h1.2
  |bool b=>exact h1.2
  |str s=>exact h1.2
  |fn f=>exact h1.2
  |kx=>cases hx
  |ptr _ _=>cases hx
  |BA _ _ _ _ _=>cases hx
  |un=>cases hx
  |bot=>cases hx
theorem eK.adb (h:eK C g st a w [])(s:Nat)(kC:st.boxes[s]?=some (some cs))(IV:cs.all AC.GY=true): ∀(w':World)(hw':Nat->Nat)(jJ:Array Value)(T':TypeId)(JZ:Nat×Nat)(qO:ay AC)(kS fv:fR)(A':Rg)(k:Bool),Fr (λb=>b=g.β s) w w'->w'.heap[g.β s]?=some (.cells jJ T' JZ)->qh jJ JZ-> A' true=C.A k->bR (gC A' hw' w') jJ.toList qO kS->qO.all (AC.yz true)=true->kS.Nodup->g.β s∉kS->(∀b∈kS,b<w'.heap.size/\w.heap.size<=b)-> (∀b∈fv,b<w'.heap.size/\w.heap.size<=b/\b∉kS/\b≠g.β s)-> ∃g',eK C g' (st.fD s (some (pQ k (λ_=>none) 0 qO))) a w' []/\(∀b∈fv,g'.fe b=some (.hand 0)/\g'.hw b=hw' b)/\∀b,b<w.heap.size->g.fe b≠some (.box s)->g'.hw b=g.hw b:=by
 obtain⟨arr,T,fr,fp,kU,sE,hr,hn,wA,hl,GQ,GS⟩:=h.boxes s cs kC;have ajd:fp=[]:=QU hr IV;subst ajd;have yL:s<st.boxes.length:=(aB.1 kC).1;intro w' hw' jJ T' JZ qO kS fv A' k jQ Hj T5 hA' wB ajr Cx Hl IW J7;let bx':ay AC:=pQ k (λ_=>none) 0 qO;let bX:AS:=st.fD s (some bx');let hw2:Nat->Nat:=λb=>if b∈kS\/b∈fv then hw' b else if b=g.β s then 0 else g.hw b
 let aeM:Nat->aC kI:=λb=>if b=g.β s\/b∈kS then some (.box s) else if b∈fv then some (.hand 0) else g.fe b
 let g':Gh:=⟨hw2,g.β,aeM,g.hdr⟩
 have ud:bX.boxes=st.boxes.set s (some bx'):=by show(st.fD s (some bx')).boxes=_;rw[kQ]
 have hpr:∀t,jO st t->jO bX t:=by rintro t ⟨c0,SO⟩;by_cases tz:s=t;subst tz;exact⟨bx',by rw[ud];simp[yL]⟩;exact⟨c0,by rw[ud,aJ tz];exact SO⟩
 have hold:∀b,b<w.heap.size->b∉kS/\b∉fv:=by intro b hb;refine⟨λhm=>?_,λhm=>?_⟩;have:=(IW b hm).2;omega;have:=(J7 b hm).2.1;omega
 have Fb:∀b,b<w.heap.size->b≠g.β s->hw2 b=g.hw b:=by intro b hb Cy;show(if b∈kS\/b∈fv then _ else if b=g.β s then _ else _)=_;rw[aH (by rintro(h1|h1);exact(hold b hb).1 h1;exact(hold b hb).2 h1),aH Cy]
 have sM:∀b x,x≠ .box s->g.fe b=some x->aeM b=some x/\w'.heap[b]?=w.heap[b]?/\hw2 b=g.hw b:=by intro b x hx hb;have FL:=(h.gY b x hb).1;have Cy:b≠g.β s:=λhm=>hx (by rw[hm,GQ]at hb;simpa using hb.symm);refine⟨?_,jQ.block b FL Cy,Fb b FL Cy⟩;show(if b=g.β s\/b∈kS then _ else if b∈fv then _ else _)=_;rw[aH (by rintro(h1|h1);exact Cy h1;exact(hold b FL).1 h1),aH (hold b FL).2];exact hb
 have hcA:∀k b o u,C.A k b o->w.cell? ⟨b,o,none⟩=some u->w'.cell? ⟨b,o,none⟩=some u:=by intro k b o u hA hu;have hb:b<w.heap.size:=World.block_lt_of_cell? w _ hu;rw[World.cell?_of_block (a:=⟨b,o,none⟩) (jQ.block b hb (λhm=>h.MU (by rw[hm];exact GQ) k o hA))];exact hu
 have hle:(dk C g st w).Le (dk C g' bX w'):=by
  refine⟨rfl,λt ht=>⟨ht,rfl⟩,hcA,aV _,λt ht=>⟨hpr t ht,rfl⟩,λ_ b o u ho hu=>?_⟩;have hb:b<w.heap.size:=World.block_lt_of_cell? w _ hu;have KS:o<g.hw b:=ho;have Cy:b≠g.β s:=λe=>by rw[e,GS]at KS;omega
  refine⟨by show o<hw2 b;rw[Fb b hb Cy];exact KS,?_⟩;show w'.cell? ⟨b,o,none⟩=some u;rw[World.cell?_of_block (a:=⟨b,o,none⟩) (jQ.block b hb Cy)];exact hu
 refine⟨g',h.step (λx=>x≠ .box s) hle h.defers h.size ?_ ?_ ?_ (λb x hk hb=>sM b x hk hb) ?_ ?_ (λk u bv hk=>by simp at hk) (.inl ⟨by simp,rfl⟩),λb hb=>?_,λb hb PC=>?_⟩;rw[ud,aK];exact h.bsize;refine h.frame.trans jQ (λb hb hm=>?_);have hm:b=g.β s:=hm;subst hm;rcases(h.gY _ _ GQ).2 with h2|h2;omega;exact h2;intro b x hx;have AG:(if b=g.β s\/b∈kS then some (kI.box s) else if b∈fv then some (.hand 0) else g.fe b)=some x:=hx;have hz:=jQ.size;split at AG;rename_i hm;rcases hm with rfl|hm;have:=h.gY _ _ GQ;exact⟨by omega,this.2⟩;exact⟨(IW b hm).1,.inl (bT h.frame.size (IW b hm).2)⟩;split at AG;rename_i hm;exact⟨(J7 b hm).1,.inl (bT h.frame.size (J7 b hm).2.1)⟩;have:=h.gY b x AG;exact⟨by omega,this.2⟩;intro i av hi;exact .inl ⟨by simp,hi,rfl⟩;intro t DH hb;rw[ud]at hb;by_cases tz:t=s;subst tz;rw[bH]at hb;simp only[cc,yL]at hb;simp at hb;subst hb;refine .inr ⟨jJ,T',JZ,kS,Hj,T5,?_,Cx,Hl,λb hb=>?_,?_,?_⟩;have:=Ga (c:=dk C g' bX w') (A':=A') (hw:=hw') (mk:=λ_=>none) (k:=k) hA' 0 (vs:=jJ.toList) (xs:=qO) (fp:=kS) wB ajr (λb hb=>by show(if b∈kS\/b∈fv then _ else _)=_;rw[aF (.inl hb)]) (λi u hu q hq=>by cases hq);exact this;show(if b=g.β t\/b∈kS then _ else _)=_;rw[aF (.inr hb)];show(if g.β t=g.β t\/g.β t∈kS then _ else _)=_;rw[aF (.inl rfl)];show(if g.β t∈kS\/g.β t∈fv then _ else if g.β t=g.β t then _ else _)=_;rw[aH (by rintro(h1|h1);exact Hl h1;exact(J7 _ h1).2.2.2 rfl),aF rfl];rw[aJ (cr tz)]at hb;exact .inl ⟨by simpa using tz,hb,rfl⟩;obtain⟨_,_,h3,h4⟩:=J7 b hb;refine⟨?_,?_⟩;show(if b=g.β s\/b∈kS then _ else if b∈fv then _ else _)=_;rw[aH (by rintro(h1|h1);exact h4 h1;exact h3 h1),aF hb];show(if b∈kS\/b∈fv then _ else _)=_;rw[aF (.inr hb)];exact Fb b hb (λe=>PC (by rw[e];exact GQ))
theorem ai3 (AD:∀f,iW P f (Γ f)){o':Oper}(ho:o'.op=.call {callee:=.value f,args,argTypes:=ts})(hg:eK C g st a w []){k:Nat}(hf:st.rd f=.val false [.fn k])(kC:(Γ k).bx=true){K:AS->aC R}(hk:uQ Γ o' k args.toList st K=some r)(next:Act->World->Prop)(Q:Exit->Act->World->Prop)(iC:∀bX a' w',oE C bX a' w'->K bX=some r->next a' w'):o'.wp P a w next Q:=by
 have J7:=hg.rd f;rw[hf]at J7;have J7:=(fi J7).1;unfold uQ at hk;split at hk
 ·rename_i x0 xs gP;split at hk
  ·rename_i s hx0;split at hk
   ·rename_i cs TQ;have hb:st.boxes[s]?=some (some cs):=by rw[eH]at TQ;cases hq:st.boxes[s]? with|none=>rw[hq]at TQ;simp at TQ|some q=>rw[hq]at TQ;simp at TQ;rw[TQ]
    cases hc:(cs.all (AC.yz (Dq cs))&&xs.all (Ci st))with
    |false=>rw[hc]at hk;cases hk
    |true=>
     rw[hc]at hk;simp only[ah]at hk;simp only[ab]at hc;cases iE:(Γ k).fn (.val true (cs.map AC.Sz)::xs.map (Bf st))with
     |none=>rw[iE]at hk;cases hk
     |some y=>
      rw[iE]at hk;simp only[aa]at hk;cases VW:(((Γ k).back y).all (AC.yz true)&&((Γ k).av y).abN)with
      |false=>rw[VW]at hk;cases hk
      |true=>
       rw[VW]at hk;simp only[ah]at hk;simp only[ab]at VW;obtain⟨⟨fn,c,TU,TR,Cb⟩,_,_,BC,_⟩:=AD k _ y iE;have BC:=BC kC _ _ rfl;have MA:=hg.rd x0;rw[hx0]at MA;have uK:=Bk MA;obtain⟨arr,T,fr,fp,kU,sE,fJ,hn,wA,ir,GS,Ef,qJ⟩:=hg.agu s hb;let A':Rg:=λq b o=>bif q then C.A (Dq cs) b o else((dk C g st w).S b o/\b<w.heap.size/\g.fe b≠some (.box s))
       have hA':∀q b' o,A' q b' o->b'<w.heap.size/\b'≠g.β s/\b'∉fp:=by
        intro q b' o hq;have key:b'<w.heap.size/\g.fe b'≠some (.box s):=by cases q with|true=>have hq:C.A (Dq cs) b' o:=hq;exact⟨Nat.lt_of_lt_of_le (C.hA _ _ _ hq).1 hg.frame.size,λhb=>hg.MU hb _ o hq⟩|false=>exact hq.2
        exact⟨key.1,λe=>key.2 (Ef b' (.inl e)),λe=>key.2 (Ef b' (.inr e))⟩
       have J5:=BC A' w (g.β s) (xs.map a.eval) arr T fr g.hw fp hA' kU sE (Io (k:=Dq cs) hc.1 fJ rfl rfl rfl) hn wA ir GS (PY hg s (λb o h=>h) xs hc.2);have apJ:a.eval x0=.pointer (some ⟨g.β s,0,none⟩):=uK;have ai9:(Value.pointer (some ⟨g.β s,0,none⟩)::xs.map a.eval).toArray=args.map a.eval:=by apply fN;simp[gP,apJ]
       rw[ai9]at J5;have fb:(execOp a.eval o').run P w=.ok (.enter k (args.map a.eval)) w:=by simp[execOp,ho,resolve,J7,Deferred.ofValue,invoke,callFunc,TU,TR];simpa using Cb
       unfold Oper.wp;rw[fb,Oper.upon_enter];refine J5.mono ?_;rintro e w' ⟨v,hw',fv,jJ,T',JZ,kS,rfl,PF,Hj,T5,wB,Cx,Hl,IW,hnv,aef,jQ⟩;show next (a.put o'.dst v) w'
       have tail:∀(st1:AS)(g':Gh),eK C g' st1 a w' []->(∀b∈fv,g'.fe b=some (.hand 0)/\g'.hw b=hw' b)->(∀b,b<w.heap.size->g.fe b≠some (.box s)->g'.hw b=g.hw b)->
        K ((st1.gv o'.dst).put o'.dst (((Γ k).av y).Dr st1.ep (st1.je o'.dst)))=some r->next (a.put o'.dst v) w':=by
        intro st1 g' oB hlv hold hk
        have hAS:∀(hd:Nat->Value)(q:Bool)(b o:Nat),A' q b o->(dk C {g' with hdr:=hd} (st1.gv o'.dst) w').S b o:=by intro hd q b o hq;cases q with|true=>exact .inl ⟨_,hq⟩|false=>rcases hq.1 with hs|hs;exact .inl hs;exact .inr (by show o<g'.hw b;rw[hold b hq.2.1 hq.2.2];exact hs)
        have aed:∀b∈fv,g'.hw b=hw' b:=λb hb=>(hlv b hb).2
        have wB:∃hd,(∀t,nq st1 t->hd t=g'.hdr t)/\gW (dk C {g' with hdr:=hd} (st1.gv o'.dst) w') v (((Γ k).av y).Dr st1.ep (st1.je o'.dst)) fv:=by
         generalize (Γ k).av y=y at PF;cases y with
         |val gg cs=>obtain⟨vs,gm,hr⟩:=PF;refine⟨qS g'.hdr (st1.je o'.dst) vs,λt ht=>Ad ht,vs,gm,?_⟩;have:=AL (c:=dk C {g' with hdr:=qS g'.hdr (st1.je o'.dst) vs} (st1.gv o'.dst) w') (mk:=st1.je o'.dst) (hAS _) 0 hr aed (λi u hu t ht=>by rw[cK]at ht;exact⟨(pX ht).2.1,Ac hu ht⟩);have yi:(dk C {g' with hdr:=qS g'.hdr (st1.je o'.dst) vs} (st1.gv o'.dst) w').ep=st1.ep:=zS;rw[yi]at this;exact this
         |wh ts=>obtain⟨ws,hv,hr⟩:=PF;obtain⟨all,uJ⟩:=I8 hr;refine⟨qS g'.hdr (st1.je o'.dst) all,λt ht=>Ad ht,ws,hv,?_⟩;have:=MW (c:=dk C {g' with hdr:=qS g'.hdr (st1.je o'.dst) all} (st1.gv o'.dst) w') (mk:=st1.je o'.dst) (hAS _) uJ 0 aed (λi u hu t ht=>by rw[cK]at ht;exact⟨(pX ht).2.1,Ac hu ht⟩);have yi:(dk C {g' with hdr:=qS g'.hdr (st1.je o'.dst) all} (st1.gv o'.dst) w').ep=st1.ep:=zS;rw[yi]at this;exact this
        obtain⟨hd,hhd,wB⟩:=wB
        obtain⟨g2,Gj⟩:=oB.Np o'.dst (hw':=g'.hw) (hdr':=hd) (fp:=fv) (st1:=st1.gv o'.dst) HJ uC AN zS (λt ht=>⟨CU ht,hhd t ht⟩)
         (Fr.refl _ _) (λ_ _ _ _=>rfl) (λ_ _ _ ho hu=>⟨ho,hu⟩) wB hnv (λb hb=>⟨(aef b hb).1,.inl (by rw[(hlv b hb).1];rfl)⟩)
        exact iC _ _ _ ⟨g2,Gj⟩ hk
       cases hcur:((Γ k).cur&&cs.all AC.GY)with
       |false=>rw[hcur]at hk;obtain⟨g',oB,hlv,hold⟩:=qJ w' hw' jJ T' JZ ((Γ k).back y) kS fv A' (Dq cs) jQ Hj T5 rfl wB VW.1 Cx Hl IW aef;exact tail _ g' oB hlv hold hk
       |true=>rw[hcur]at hk;simp only[ab]at hcur;have ajd:fp=[]:=QU fJ hcur.2;subst ajd;obtain⟨g',oB,hlv,hold⟩:=hg.adb s hb hcur.2 w' hw' jJ T' JZ ((Γ k).back y) kS fv A' (Dq cs) ⟨jQ.os,jQ.tape,jQ.output,jQ.size,λb hb hm=>jQ.block b hb (λhh=>hm (hh.resolve_right (by simp)))⟩ Hj T5 rfl wB VW.1 Cx Hl (λb hb=>⟨(IW b hb).1,(IW b hb).2.resolve_left (by simp)⟩) (λb hb=>⟨(aef b hb).1,(aef b hb).2.1.resolve_left (by simp),(aef b hb).2.2⟩);exact tail _ g' oB hlv hold hk
   cases hk
  cases hk
 cases hk
theorem arg_val (hA:c'.A=c.A)(hw:c'.w=c.w){x:AV}(h:gW c v x fp)(hx:x.IG=true):fp=[]/\gW c' v x []:=by
 cases x with
 |wh _=>cases hx
 |val g cs=>
  obtain⟨vs,gm,h⟩:=h
  have key:∀(cs:ay AC)(vs:jz)(fp:fR),bR c vs cs fp->cs.all AC.IG=true->fp=[]/\bR c' vs cs []:=by
   intro cs
   induction cs with
   |nil=>intro vs fp h _;cases vs with
    |nil=>exact⟨h,rfl⟩
    |cons _ _=>exact h.elim
   |cons x cs ih=>
    intro vs fp h hx
    cases vs with
    |nil=>exact h.elim
    |cons v vs=>
     obtain⟨f1,f2,rfl,h1,h2⟩:=h
     simp only[cv,ab]at hx
     obtain⟨rfl,k2⟩:=ih vs f2 h2 hx.2
     have hx:=hx.1
     have one:f1=[]/\iI c' v x []:=by
      cases x with
      |sl fl e xs=>cases fl with|arg k=>exact⟨h1.1,rfl,by rw[hA,hw];exact h1.2⟩|own _=>cases hx|loc _ _=>cases hx|nest _ _ _ _ _ _=>cases hx|part _ _ _ _=>cases hx|gj _ _ _=>cases hx
      |int _ _=>exact rA h1 rfl
      |bool _=>exact rA h1 rfl
      |str _=>exact rA h1 rfl
      |fn _=>exact rA h1 rfl
      |kx=>cases hx
      |ptr _ _=>cases hx
      |BA _ _ _ _ _=>cases hx
      |un=>cases hx
      |bot=>cases hx
     obtain⟨rfl,k1⟩:=one
     exact⟨rfl,[],[],rfl,k1,k2⟩
  obtain⟨e,k⟩:=key cs vs fp h hx;exact⟨e,vs,gm,k⟩
theorem S2 (h:eK C g st a w []):∀(xs:ay Operand),xs.all (λx=>(st.rd x).IG)=true->qj C.A w (xs.map a.eval) (xs.map st.rd)
 |[],_=>trivial
 |x::xs,hf=>by simp only[cv,ab]at hf;exact⟨(arg_val (c:=dk C g st w) (c':=gC C.A (λ_=>0) w) rfl rfl (h.rd x) hf.1).2,S2 h xs hf.2⟩
theorem aj7 (AD:∀f,iW P f (Γ f)){o':Oper}(ho:o'.op=.call {callee:=.value f,args,argTypes:=ts})(hg:eK C g st a w []){k:Nat}(hf:st.rd f=.val false [.fn k])(hpr:(Γ k).pr=true){K:AS->aC R}(hk:abO Γ o' k args.toList st K=some r)(next:Act->World->Prop)(Q:Exit->Act->World->Prop)(iC:∀bX a' w',oE C bX a' w'->K bX=some r->next a' w'):o'.wp P a w next Q:=by
 have J7:=hg.rd f;rw[hf]at J7;have J7:=(fi J7).1;unfold abO at hk;split at hk
 ·rename_i d hd;split at hk
  ·rename_i GR;cases hc:args.toList.all (λx=>(st.rd x).IG)with
   |false=>rw[hc]at hk;cases hk
   |true=>
    rw[hc]at hk;simp only[ah]at hk;cases iE:(Γ k).fn (args.toList.map st.rd)with
    |none=>rw[iE]at hk;cases hk
    |some y=>
     rw[iE]at hk;simp only[aa]at hk;cases VW:((Γ k).back y).all AC.IG with
     |false=>rw[VW]at hk;cases hk
     |true=>
      rw[VW]at hk;simp only[ah]at hk;obtain⟨⟨fn,c,TU,TR,Cb⟩,_,_,_,BC⟩:=AD k _ y iE;have J5:=BC hpr C.A w (args.toList.map a.eval) (λq b o hq=>Nat.lt_of_lt_of_le (C.hA q b o hq).1 hg.frame.size) (S2 hg _ hc);have gP:(args.toList.map a.eval).toArray=args.map a.eval:=by apply fN;simp
      rw[gP]at J5;have fb:(execOp a.eval o').run P w=.ok (.enter k (args.map a.eval)) w:=by simp[execOp,ho,resolve,J7,Deferred.ofValue,invoke,callFunc,TU,TR];simpa using Cb
      unfold Oper.wp;rw[fb,Oper.upon_enter];refine J5.mono ?_;rintro e w' ⟨b,arr,T,fr,hw,rfl,hb,kU,sE,fJ,jQ⟩;show next (a.put o'.dst (.pointer (some ⟨b,0,none⟩))) w'
      rw[eH]at GR;have FL:=mH kU;have Cy:∀b' x,g.fe b'=some x->b'≠b:=λb' x hx e=>by have:=(hg.gY b' x hx).1;omega
      have hr1:bR ⟨λb'=>if b'=b then 0 else g.hw b',λt=>if t=d then b else g.β t,C.A,g.hdr,nq st,st.ep,jO st,w'⟩ arr.toList ((Γ k).back y) []:=by
       have hv:gW (gC C.A hw w') (.agg arr.toList.toArray) (.val true ((Γ k).back y)) []:=⟨arr.toList,rfl,fJ⟩
       obtain⟨_,vs,gm,h⟩:=arg_val (c:=gC C.A hw w') (c':=⟨λb'=>if b'=b then 0 else g.hw b',λt=>if t=d then b else g.β t,C.A,g.hdr,nq st,st.ep,jO st,w'⟩) rfl rfl hv VW;have:arr.toList=vs:=by have gm:Value.agg arr.toList.toArray=.agg vs.toArray:=gm;simp only[Value.agg.injEq]at gm;simpa using congrArg Array.toList gm
       rw[this];exact h
      obtain⟨g',IZ,h'⟩:=hg.Wj d (cs:=(Γ k).back y) (arr:=arr) (T:=T) (fr:=fr) (fp:=[]) (w':=w') (bnew:=b) (hw':=λb'=>if b'=b then 0 else g.hw b') (.inr ⟨hb,GR⟩) ⟨jQ.os,jQ.tape,jQ.output,jQ.size,λb' im _=>jQ.block b' im (λm=>m)⟩ kU sE FL (by simp) (λb' x hx _ hn=>by simp[hn]) (λb' o u ho hu=>by have im:b'<w.heap.size:=World.block_lt_of_cell? w _ hu;exact⟨by simp[show b'≠b by omega];exact ho,zF jQ hu⟩) hr1 List.nodup_nil (by simp) (λb' im=>by cases im);have hdl:d<st.boxes.length:=(aB.1 GR).1;have hq:=h'.quiet (some d) (v:=.pointer (some ⟨b,0,none⟩)) (av:=.one (.ptr d 0)) (mZ ⟨by simp[dk,IZ],⟨(Γ k).back y,by rw[kQ];simp[hdl]⟩,rfl⟩);rw[hd];exact iC _ _ _ ⟨g',hq⟩ hk
  cases hk
 cases hk
theorem agy (AD:∀f,iW P f (Γ f)){o':Oper}(ho:o'.op=.call {callee:=.value f,args,argTypes:=ts})(h:oE C st a w){K:AS->aC R}(hk:Dt Γ o' f args.toList st K=some r)(next:Act->World->Prop)(Q:Exit->Act->World->Prop)(iC:∀bX a' w',oE C bX a' w'->K bX=some r->next a' w'):o'.wp P a w next Q:=by
 obtain⟨g,hg⟩:=h;unfold Dt at hk;split at hk
 ·rename_i k hf
  have J7:=hg.rd f
  rw[hf]at J7
  have J7:=(fi J7).1
  cases kC:(Γ k).bx with
  |true=>rw[kC]at hk;exact ai3 AD ho hg hf kC hk next Q iC
  |false=>
  rw[kC]at hk
  simp only[af]at hk
  cases hpr:(Γ k).pr with
  |true=>rw[hpr]at hk;exact aj7 AD ho hg hf hpr hk next Q iC
  |false=>
  rw[hpr]at hk
  simp only[af]at hk
  cases Ot:(Γ k).io with
  |true=>rw[Ot]at hk;cases hk
  |false=>
  rw[Ot]at hk
  simp only[af]at hk
  cases iE:(Γ k).fn (args.toList.map λx=>((st.rd x).fresh st).asArg st.ep)with
  |none=>rw[iE]at hk;cases hk
  |some y0=>
   rw[iE]at hk
   simp only[aa]at hk
   obtain⟨⟨fn,c,TU,TR,Cb⟩,BC,_⟩:=AD k _ y0 iE
   have BC:=BC Ot kC
   have hk:K ((st.gv o'.dst).put o'.dst (((Γ k).res y0).Dr st.ep (st.je o'.dst)))=some r:=by unfold kH.res;cases Ox:(Γ k).sel y0 with|true=>rw[Ox]at hk;exact hk|false=>rw[Ox]at hk;exact hk
   generalize hy0:(Γ k).res y0=y at hk BC
   have J5:=BC (λ_ b o=>(dk C g st w).S b o/\b<w.heap.size) w (args.toList.map a.eval) (λ_ _ _ h=>h.2) (S3 hg args.toList)
   have gP:(args.toList.map a.eval).toArray=args.map a.eval:=by apply fN;simp
   rw[gP]at J5
   have fb:(execOp a.eval o').run P w=.ok (.enter k (args.map a.eval)) w:=by simp[execOp,ho,resolve,J7,Deferred.ofValue,invoke,callFunc,TU,TR];simpa using Cb
   unfold Oper.wp
   rw[fb,Oper.upon_enter]
   refine J5.mono ?_
   rintro e w' ⟨v,hw,fp,rfl,fJ,Fc,Dw,jQ⟩
   show next (a.put o'.dst v) w'
   let hw':Nat->Nat:=λb=>if b∈fp then hw b else g.hw b
   have Xh:∀b,b<w.heap.size->b∉fp:=λb hb hm=>by have:=(Dw b hm).1;omega
   have hA':∀(hd:Nat->Value)(_:Bool)(b o:Nat),((dk C g st w).S b o/\b<w.heap.size)->(dk C {g with hw:=hw',hdr:=hd} (st.gv o'.dst) w').S b o:=by rintro hd _ b o ⟨hs,hb⟩;rcases hs with hs|hs;exact .inl hs;exact .inr (by simp only[dk,hw',aH (Xh b hb)];exact hs)
   have wB:∃hd,(∀t,nq st t->hd t=g.hdr t)/\gW (dk C {g with hw:=hw',hdr:=hd} (st.gv o'.dst) w') v (y.Dr st.ep (st.je o'.dst)) fp:=by
    have aed:∀b∈fp,hw' b=hw b:=λb hb=>by simp[hw',hb]
    cases y with
    |val gg cs=>obtain⟨vs,gm,hr⟩:=fJ;refine⟨qS g.hdr (st.je o'.dst) vs,λt ht=>Ad ht,vs,gm,?_⟩;have:=AL (c:=dk C {g with hw:=hw',hdr:=qS g.hdr (st.je o'.dst) vs} (st.gv o'.dst) w') (mk:=st.je o'.dst) (hA' _) 0 hr aed (λi u hu t ht=>by rw[cK]at ht;exact⟨(pX ht).2.1,Ac hu ht⟩);have yi:(dk C {g with hw:=hw',hdr:=qS g.hdr (st.je o'.dst) vs} (st.gv o'.dst) w').ep=st.ep:=zS;rw[yi]at this;exact this
    |wh ts=>obtain⟨ws,hv,hr⟩:=fJ;obtain⟨all,uJ⟩:=I8 hr;refine⟨qS g.hdr (st.je o'.dst) all,λt ht=>Ad ht,ws,hv,?_⟩;have:=MW (c:=dk C {g with hw:=hw',hdr:=qS g.hdr (st.je o'.dst) all} (st.gv o'.dst) w') (mk:=st.je o'.dst) (hA' _) uJ 0 aed (λi u hu t ht=>by rw[cK]at ht;exact⟨(pX ht).2.1,Ac hu ht⟩);have yi:(dk C {g with hw:=hw',hdr:=qS g.hdr (st.je o'.dst) all} (st.gv o'.dst) w').ep=st.ep:=zS;rw[yi]at this;exact this
   obtain⟨hd,hhd,wB⟩:=wB
   obtain⟨g',oB⟩:=hg.Np o'.dst (hw':=hw') (hdr':=hd) (fp:=fp) (st1:=st.gv o'.dst) HJ uC AN zS (λt ht=>⟨CU ht,hhd t ht⟩)
    ⟨jQ.os,jQ.tape,jQ.output,jQ.size,λb hb _=>jQ.block b hb (λm=>m)⟩ (λb x hx _=>by simp[hw',Xh b (hg.gY b x hx).1])
    (λb o u ho hu=>by have hb:b<w.heap.size:=World.block_lt_of_cell? w _ hu;exact⟨by simp[hw',Xh b hb];exact ho,zF jQ hu⟩) wB Fc (λb hb=>⟨(Dw b hb).2,.inr (Dw b hb).1⟩)
   exact iC _ _ _ ⟨g',oB⟩ hk
 cases hk
end Go.Dn
