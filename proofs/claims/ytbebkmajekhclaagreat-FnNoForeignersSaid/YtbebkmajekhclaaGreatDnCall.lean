import Derived.Test.YtbebkmajekhclaaGreatDnOps8
/- A call by value: what a callee promises, and what the caller makes of it. -/
namespace Go.Dn
open Go.RowKit
variable {P:Program} {C:Ctx} {st:AS} {a:Act} {w:World} {R:Type} {r:R}
variable {x:AC} {args:Array Operand} {ts:Array TypeId} {Γ:BV} {g:Gh} {hw:Nat->Nat} {hdr:Nat->Value} {f:Operand} {c c':RC} {v:Value} {cs:ax AC} {d:az Nat} {fp:fK} {all:jt}
def gD (A:Rg)(hw:Nat->Nat)(w:World):RC:=⟨hw,λ_=>0,A,λ_=>undef,λ_=>False,0,λ_=>False,w⟩
def rz (A:Rg)(w:World):jt->ax AV->Prop
 |[],[]=>True
 |v::vs,x::xs=>gU (gD A (λ_=>0) w) v x []/\rz A w vs xs
 |_,_=>False
def au2 (P:Program)(f:Nat)(F:lr)(y:F.R)(g:Bool)(cs:ax AC)(rest:ax AV):Prop:=
 ∀(A:Rg)(w:World)(v0:Value)(vs:jt)(hw:Nat->Nat)(fp:fK),(∀k b o,A k b o->b<w.heap.size/\b∉fp)->gU (gD A hw w) v0 (.val g cs) fp->fp.Nodup->(∀b∈fp,b<w.heap.size)->rz A w vs rest->
  Calls P f (v0::vs).toArray w λe w'=>∃v hw' fr lx,e=.returned v/\gU (gD A hw' w') v (F.av y) fr/\gU (gD A hw' w') v0 (.val g (F.back y)) lx/\lx.Nodup/\
   (∀b∈lx,b<w'.heap.size/\(b∈fp\/w.heap.size<=b))/\Fr (λb=>b∈fp) w w'
def aqb (P:Program)(f:Nat)(F:lr)(y:F.R)(cs:ax AC)(rest:ax AV):Prop:=
 ∀(A:Rg)(w:World)(b:Nat)(vs:jt)(arr:Array Value)(T:TypeId)(fr:Nat×Nat)(hw:Nat->Nat)(fp:fK),(∀k b' o,A k b' o->b'<w.heap.size/\b'≠b/\b'∉fp)->
  w.heap[b]?=some (.cells arr T fr)->ru arr fr->bU (gD A hw w) arr.toList cs fp->fp.Nodup->b∉fp->(∀b'∈fp,b'<w.heap.size)->hw b=0->rz A w vs rest->
  Calls P f (.pointer (some ⟨b,0,none⟩)::vs).toArray w λe w'=>∃v hw' fv jL T' SS lx,e=.returned v/\gU (gD A hw' w') v (F.av y) fv/\w'.heap[b]?=some (.cells jL T' SS)/\ru jL SS/\
   bU (gD A hw' w') jL.toList (F.back y) lx/\lx.Nodup/\b∉lx/\(∀b'∈lx,b'<w'.heap.size/\(b'∈fp\/w.heap.size<=b'))/\fv.Nodup/\(∀b'∈fv,b'<w'.heap.size/\(b'∈fp\/w.heap.size<=b')/\b'∉lx/\b'≠b)/\Fr (λb'=>b'=b\/b'∈fp) w w'
def amS (P:Program)(f:Nat)(F:lr)(y:F.R)(xs:ax AV):Prop:=
 ∀(A:Rg)(w:World)(vs:jt),(∀k b o,A k b o->b<w.heap.size)->rz A w vs xs->
  Calls P f vs.toArray w λe w'=>∃b arr T fr hw,e=.returned (.pointer (some ⟨b,0,none⟩))/\w.heap.size<=b/\w'.heap[b]?=some (.cells arr T fr)/\ru arr fr/\bU (gD A hw w') arr.toList (F.back y) []/\Fr (λ_=>False) w w'
def iZ (P:Program)(f:Nat)(F:lr):Prop:=
 ∀(xs:ax AV)(y:F.R),F.fn xs=some y->
  (∃fn c,P.funcs[f]?=some fn/\fn.body=some c/\(fn.name== "runtime.NumGoroutine")=false)/\
  (F.io=false->F.bx=false->∀(A:Rg)(w:World)(vs:jt),(∀k b o,A k b o->b<w.heap.size)->rz A w vs xs->
    Calls P f vs.toArray w λe w'=>∃v hw fp,e=.returned v/\gU (gD A hw w') v (F.res y) fp/\fp.Nodup/\(∀b∈fp,w.heap.size<=b/\b<w'.heap.size)/\Fr (λ_=>False) w w')/\
  (F.io=true->∀g cs rest,xs=.val g cs::rest->au2 P f F y g cs rest)/\
  (F.bx=true->∀cs rest,xs=.val true cs::rest->aqb P f F y cs rest)/\
  (F.pr=true->amS P f F y xs)
theorem ti (h:iC c v x fp)(hf:x.kx=true):fp=[]/\iC c' v x []:=by cases x with|int k n=>exact⟨h.2,h.1,rfl⟩|bool b=>exact⟨h.2,h.1,rfl⟩|str s=>exact⟨h.2,h.1,rfl⟩|fn f=>exact⟨h.2,h.1,rfl⟩|_=>cases hf
theorem IM {c':RC}:∀{vs:jt}{xs:ax AC}{fp:fK},bU c vs xs fp->xs.all AC.kx=true->fp=[]/\bU c' vs xs []
 |[],[],_,h,_=>⟨h,rfl⟩
 |_::_,_::_,_,h,hf=>by obtain⟨f1,f2,rfl,h1,h2⟩:=h;simp only[cj,ae]at hf;obtain⟨rfl,k1⟩:=ti (c':=c') h1 hf.1;obtain⟨rfl,k2⟩:=IM (c':=c') h2 hf.2;exact⟨rfl,[],[],rfl,k1,k2⟩
 |[],_::_,_,h,_=>h.elim
 |_::_,[],_,h,_=>h.elim
theorem Xl:∀{ws:jt}{ts:ax (Bool×ax AC)}{fp:fK},gU.sk c ws ts fp->(ts.all λx=>x.2.all AC.kx)=true->gU.sk c' ws ts []
 |[],[],_,_,_=>rfl
 |_::_,_::_,_,h,hf=>by obtain⟨f1,f2,rfl,⟨vs,hv,h1⟩,h2⟩:=h;simp only[cj,ae]at hf;exact⟨[],[],rfl,⟨vs,hv,(IM h1 hf.1).2⟩,Xl h2 hf.2⟩
 |[],_::_,_,h,_=>h.elim
 |_::_,[],_,h,_=>h.elim
theorem Pt {x:AV}(h:gU c v x fp)(hf:x.kx=true):gU c' v x []:=by
 cases x with
 |val g cs=>obtain⟨vs,hv,h⟩:=h;exact⟨vs,hv,(IM h hf).2⟩
 |yh ts=>obtain⟨ws,hv,h⟩:=h;exact⟨ws,hv,Xl h hf⟩
theorem acS {A:Rg}:∀(os ss:ax AC){r:ax AC}{vs us:jt}{f:fK},pn os ss=some r->bU c vs os []->bU c us ss f->bU (gD A c.hw c.w) vs r f:=by
 intro os;induction os with
 |nil=>intro ss r vs us f h hv hu;cases ss with|cons _ _=>simp[pn]at h|nil=>simp[pn]at h;subst h;cases vs with|cons _ _=>exact hv.elim|nil=>cases us with|cons _ _=>exact hu.elim|nil=>exact hu
 |cons o os ih=>
  intro ss r vs us f h hv hu;cases vs with
  |nil=>exact hv.elim
  |cons v vs=>
   cases ss with
   |nil=>unfold pn at h;split at h<;>first|contradiction|cases h
   |cons s ss=>
    cases us with
    |nil=>exact hu.elim
    |cons u us=>
     obtain⟨g1,g2,hg,hv1,Vq⟩:=hv;have e1:g1=[]:=by have:=hg.symm;simp at this;exact this.1
     have e2:g2=[]:=by have:=hg.symm;simp at this;exact this.2
     subst e1;subst e2;obtain⟨f1,f2,rfl,hu1,hu2⟩:=hu;have fl:∀{x:AC}{r'},x.kx=true->s.kx=true->o=x->pn os ss=some r'->r=x::r'->bU (gD A c.hw c.w) (v::vs) r (f1++f2):=by rintro x r' hx hs rfl hr rfl;obtain⟨rfl,_⟩:=ti (c':=c) hu1 hs;exact⟨[],f2,rfl,(ti hv1 hx).2,ih ss hr Vq hu2⟩
     unfold pn at h;split at h;contradiction;rename_i ep rt t e0 xs0 os' t' e xs ss' h1 h2;injection h1 with h1 Ru;subst h1;subst Ru;injection h2 with h2 Wt;subst h2;subst Wt;cases ht:(t'==t)with
     |false=>rw[ht]at h;cases h
     |true=>
      have:t'=t:=by simpa using ht
      subst this;rw[ht]at h;simp only[ah]at h;obtain⟨r',hr,h⟩:=aZ.1 h;cases h;have hv':=(hv1.2.2.2.2 rt t' rfl).2;have Vp:=(hu1.2 t' rfl).2;have huv:u=v:=Vp.trans hv'.symm;subst huv;exact⟨f1,f2,rfl,⟨hu1.1,by simp⟩,ih _ hr Vq hu2⟩
     rename_i k n os' k' n' ss' h1 h2;injection h1 with h1 Ru;subst Ru;injection h2 with h2 Wt;subst h2;subst Wt;obtain⟨r',hr,h⟩:=aZ.1 h;cases h;exact fl (x:=.int k n) rfl rfl h1 hr rfl;rename_i k os' k' ss' h1 h2;injection h1 with h1 Ru;subst Ru;injection h2 with h2 Wt;subst h2;subst Wt;obtain⟨r',hr,h⟩:=aZ.1 h;cases h;exact fl (x:=.bool k) rfl rfl h1 hr rfl;rename_i k os' k' ss' h1 h2;injection h1 with h1 Ru;subst Ru;injection h2 with h2 Wt;subst h2;subst Wt;obtain⟨r',hr,h⟩:=aZ.1 h;cases h;exact fl (x:=.str k) rfl rfl h1 hr rfl;cases h
theorem aah (h:iC c v x fp):iC (gD (λ_ b o=>c.S b o/\b<c.w.heap.size) (λ_=>0) c.w) v (x.asArg c.ep) []:=by
 have hS:∀{e:CT}{xs:ax e.D},jX c.w c.S (.sl e) [v] xs->jX c.w (λb o=>c.S b o/\b<c.w.heap.size) (.sl e) [v] xs:=λhr=>
  jX.mono (λb o u hs hu=>⟨⟨hs,World.block_lt_of_cell? c.w _ hu⟩,hu⟩) hr
 cases x with|int k n=>exact⟨h.1,rfl⟩|bool b=>exact⟨h.1,rfl⟩|str s=>exact⟨h.1,rfl⟩|kI=>exact⟨h.1,rfl⟩|fn f=>exact⟨h.1,rfl⟩|ptr s off=>exact rfl|un=>exact rfl|bot=>exact rfl|Dy fl e y i off=>exact rfl|sl fl e xs=>cases fl with|nest _ _ _ _ _ _=>exact rfl|part _ _ _ _=>exact rfl|ga _ _ _=>exact rfl|own t=>exact⟨rfl,hS (fZ.rep (λb o ho=> .inr ho) h.1)⟩|arg k=>exact⟨rfl,hS (jX.mono (λb o u hs hu=>⟨.inl ⟨k,hs⟩,hu⟩) h.2)⟩|loc ep pv=>simp only[AC.asArg];split;rename_i he;exact⟨rfl,hS (h.2.2.2.1 (by simpa using he))⟩;exact rfl
theorem MB:∀{vs:jt}{xs:ax AC}{fp:fK},bU c vs xs fp->bU (gD (λ_ b o=>c.S b o/\b<c.w.heap.size) (λ_=>0) c.w) vs (xs.map (AC.asArg c.ep)) []
 |[],[],_,_=>rfl
 |_::_,_::_,_,h=>by obtain⟨f1,f2,rfl,h1,h2⟩:=h;exact⟨[],[],rfl,aah h1,MB h2⟩
 |[],_::_,_,h=>h.elim
 |_::_,[],_,h=>h.elim
theorem aeX {x:AV}(h:gU c v x fp):gU (gD (λ_ b o=>c.S b o/\b<c.w.heap.size) (λ_=>0) c.w) v (x.asArg c.ep) []:=by
 cases x with
 |val g cs=>obtain⟨vs,hv,h⟩:=h;exact⟨vs,hv,MB h⟩
 |yh ts=>exact gU.bot _ _
theorem WI (h:eJ C g st a w []):∀(args:ax Operand),
 rz (λ_ b o=>(df C g st w).S b o/\b<w.heap.size) w (args.map a.eval) (args.map λx=>((st.rd x).fresh st).asArg st.ep)
 |[]=>trivial
 |x::xs=>⟨aeX (c:=df C g st w) (h.fresh (h.rd x)),WI h xs⟩
theorem aai {A':Rg}{tag:az Nat}(h:iC (gD A' hw c.w) v x fp)(hA:∀k b o,A' k b o->c.S b o)(Hr:∀b∈fp,c.hw b=hw b)(ht:∀t,tag=some t->c.iss t/\v=c.hdr t):iC c v (x.Fw c.ep tag) fp:=by
 cases x with
 |int k n=>exact h
 |bool b=>exact h
 |str s=>exact h
 |kI=>exact h
 |fn f=>exact h
 |ptr s off=>exact h.2.2
 |un=>exact h
 |bot=>exact h
 |Dy fl e y i off=>cases fl with|own t=>exact h.elim|nest _ _ _ _ _ _=>exact h.elim|part _ _ _ _=>exact h.elim|ga _ _ _=>exact h.elim|arg _=>exact h.1|loc ep pv=>exact h.1
 |sl fl e xs=>
  cases fl with
  |nest _ _ _ _ _ _=>exact h.1
  |part _ _ _ _=>exact h.1
  |ga _ _ _=>obtain⟨_,⟨k,hk,h3⟩,_⟩:=h;exact⟨λq hq=>(by cases hq),⟨k,hk,h3.mono (λb hb=>⟨rfl,Hr b hb⟩)⟩,by simp⟩
  |own t=>exact⟨fZ.mono h.1 (λb hb=>⟨rfl,Hr b hb⟩),ht⟩
  |loc ep pv=>exact h.1
  |arg _=>have hr:jX c.w c.S (.sl e) [v] xs:=jX.mono (λb o u hs hu=>⟨hA _ b o hs,hu⟩) h.2;refine⟨h.1,bj _,?_,λ_=>hr,by simp⟩;obtain⟨u,hu,k⟩:=hr;simp at hu;subst hu;rcases k with⟨⟨ad,rfl⟩,rfl⟩|⟨b,o,cap,rfl,_⟩;exact⟨_,_,_,rfl,rfl⟩;exact⟨_,_,_,rfl,rfl⟩
theorem CS {A':Rg}{mk:Nat->az Nat}(hA:∀k b o,A' k b o->c.S b o):∀{vs:jt}{xs:ax AC}{fp:fK}(j:Nat),bU (gD A' hw c.w) vs xs fp->(∀b∈fp,c.hw b=hw b)->
 (∀i v,vs[i]?=some v->∀t,mk (j+i)=some t->c.iss t/\v=c.hdr t)->bU c vs (KO c.ep mk j xs) fp
 |[],[],_,_,h,_,_=>h
 |v::_,_::_,_,j,h,hh,hm=>by obtain⟨f1,f2,rfl,h1,h2⟩:=h;exact⟨f1,f2,rfl,aai h1 hA (λb hb=>hh b (bK _ hb)) (λt ht=>hm 0 v rfl t ht),CS hA (j+1) h2 (λb hb=>hh b (bw _ hb)) (λi u hu t ht=>hm (i+1) u (by simpa using hu) t (by rwa[show j+(i+1)=j+1+i by omega]))⟩
 |[],_::_,_,_,h,_,_=>h.elim
 |_::_,[],_,_,h,_,_=>h.elim
inductive Leaves (A:Rg) (hw:Nat->Nat) (w:World):List Value->List (Bool×List AC)->List Nat->List Value->Prop
 |nil:Leaves A hw w [] [] [] []
 |cons {v:Value} {vs:List Value} {g:Bool} {cs:List AC} {ts:List (Bool×List AC)} {f1 f2:List Nat} {us all:List Value} (gb:Cut g v us) (hr:bU (gD A hw w) us cs f1) (h:Leaves A hw w vs ts f2 all):
  Leaves A hw w (v::vs) ((g,cs)::ts) (f1++f2) (us++all)
theorem LR {A:Rg}{w:World}:∀{ws:jt}{ts:ax (Bool×ax AC)}{fp:fK},gU.sk (gD A hw w) ws ts fp->∃all,Leaves A hw w ws ts fp all
 |[],[],_,h=>by cases h;exact⟨[],.nil⟩
 |_::_,(g,cs)::_,_,h=>by obtain⟨f1,f2,rfl,⟨us,gb,hr⟩,h2⟩:=h;obtain⟨all,IT⟩:=LR h2;exact⟨us++all,.cons gb hr IT⟩
 |[],_::_,_,h=>h.elim
 |_::_,[],_,h=>h.elim
theorem Qf {A':Rg}{mk:Nat->az Nat}(hA:∀k b o,A' k b o->c.S b o){ws:jt}{ts:ax (Bool×ax AC)}(h:Leaves A' hw c.w ws ts fp all): ∀j,(∀b∈fp,c.hw b=hw b)->(∀i v,all[i]?=some v->∀t,mk (j+i)=some t->c.iss t/\v=c.hdr t)->gU.sk c ws (acN c.ep mk j ts) fp:=by induction h with|nil=>intro j _ _;exact rfl| @cons v vs g cs ts f1 f2 us all gb hr h ih=>intro j hh hm;have hl:=hr.length;refine⟨f1,f2,rfl,⟨us,gb,CS hA j hr (λb hb=>hh b (bK _ hb)) (λi u hu t ht=>?_)⟩,ih _ (λb hb=>hh b (bw _ hb)) (λi u hu t ht=>?_)⟩;exact hm i u (by rw[bF (aA.1 hu).1];exact hu) t ht;have hl':us.length=cs.length:=hl;refine hm (us.length+i) u (by rw[bA (by omega)];simpa using hu) t ?_;rw[<-gy,hl'];exact ht
def sB (hdr:Nat->Value)(mk:Nat->az Nat)(all:jt):Nat->Value:=λu=>if mk (u/3%4096)=some u then(all[u/3%4096]?).getD undef else hdr u
theorem Ce {t:Nat}(h:oc st t):sB hdr (st.ja d) all t=hdr t:=by unfold sB;rw[aG];intro e;exact(rf e).1 h
theorem Cd {i t:Nat}(hv:all[i]?=some v)(h:st.ja d i=some t):v=sB hdr (st.ja d) all t:=by
 obtain⟨_,_,d',rfl,ht,hi⟩:=rf h;have alS:t/3%4096=i:=by rw[ht,K0];omega
 unfold sB;rw[alS,aI h,hv];rfl
theorem ac1 {vs us:jt}{seg:ax AC}{f1 f2 f3:fK}{off n:Nat}(hus:us=(vs.drop off).take n)(hln:us.length=n)(r1:bU c' (vs.take off) (cs.take off) f1)(r2:bU c' us seg f2)(r3:bU c' (vs.drop (off+n)) (cs.drop (off+n)) f3): bU c' vs (eZ cs off seg) (f1++f2++f3):=by
 have BK:=r2.length;have e:vs=vs.take off++us++vs.drop (off+n):=by rw[hus,aL,<-eK,cI,cI]
 rw[e,eZ,show seg.length=n by omega];exact bU.append (bU.append r1 r2) r3
theorem Sf:∀(os ss:ax AC){r:ax AC},pn os ss=some r->ss.length=os.length:=by
 intro os
 induction os with
 |nil=>intro ss r h;cases ss with
  |nil=>rfl
  |cons _ _=>simp[pn]at h
 |cons o os ih=>
  intro ss r h
  cases ss with
  |nil=>unfold pn at h;split at h<;>first|contradiction|cases h
  |cons s ss=>
   unfold pn at h
   split at h
   ·contradiction
   ·rename_i h1 h2
    injection h1 with h1 Ru;subst Ru
    injection h2 with h2 Wt;subst Wt
    rw[Bool.cond_eq_ite]at h
    split at h
    ·obtain⟨r',hr,h⟩:=aZ.1 h
     simp[ih _ hr]
    ·cases h
   all_goals first
    |cases h
    |(rename_i h1 h2
      injection h1 with h1 Ru;subst Ru
      injection h2 with h2 Wt;subst Wt
      obtain⟨r',hr,h⟩:=aZ.1 h
      simp[ih _ hr])
theorem IG {A':Rg}{mk:Nat->az Nat}{k:Bool}(hA:A' true=c.A k):∀{vs:jt}{xs:ax AC}{fp:fK}(j:Nat),bU (gD A' hw c.w) vs xs fp->xs.all (AC.AH true)=true->
 (∀b∈fp,c.hw b=hw b)->(∀i v,vs[i]?=some v->∀t,mk (j+i)=some t->c.iss t/\v=c.hdr t)->bU c vs (qY k mk j xs) fp
 |[],[],_,_,h,_,_,_=>h
 |v::_,x::_,_,j,h,pK,hh,hm=>by
  obtain⟨f1,f2,rfl,h1,h2⟩:=h;simp only[cj,ae]at pK;refine⟨f1,f2,rfl,?_,IG hA (j+1) h2 pK.2 (λb hb=>hh b (bw _ hb)) (λi u hu t ht=>hm (i+1) u (by simpa using hu) t (by rwa[show j+(i+1)=j+1+i by omega]))⟩;have Hr:∀b∈f1,c.hw b=hw b:=λb hb=>hh b (bK _ hb);have ht:∀t,mk j=some t->c.iss t/\v=c.hdr t:=λt ht=>hm 0 v rfl t ht;have pK:=pK.1;cases x with
  |sl fl e xs=>
   cases fl with
   |own t=>exact⟨fZ.mono h1.1 (λb hb=>⟨rfl,Hr b hb⟩),ht⟩
   |arg k'=>
    have hk:k'=true:=by simpa[AC.AH]using pK
    subst hk;exact⟨h1.1,by rw[<-hA];exact h1.2⟩
   |loc _ _=>cases pK
   |nest _ _ _ _ _ _=>cases pK
   |part _ _ _ _=>cases pK
   |ga _ _ _=>cases pK
  |int _ _=>exact h1
  |bool _=>exact h1
  |str _=>exact h1
  |fn _=>exact h1
  |kI=>cases pK
  |ptr _ _=>cases pK
  |Dy _ _ _ _ _=>cases pK
  |un=>cases pK
  |bot=>cases pK
 |[],_::_,_,_,h,_,_,_=>h.elim
 |_::_,[],_,_,h,_,_,_=>h.elim
theorem K3 {A':Rg}{w:World}{k:Bool}:∀{cs:ax AC},cs.all (AC.AH k)=true->∀{c:RC}{vs:jt}{fp:fK},bU c vs cs fp->c.w=w->c.hw=hw->A' true=c.A k->bU (gD A' hw w) vs (cs.map AC.Wi) fp
 |[],_,c,vs,fp,h,_,_,_=>by cases vs with|nil=>exact h|cons _ _=>exact h.elim
 |x::cs,pK,c,vs,fp,h,Wu,HS,hA=>by
  cases vs with
  |nil=>exact h.elim
  |cons v vs=>
   obtain⟨f1,f2,rfl,h1,h2⟩:=h;simp only[cj,ae]at pK;refine⟨f1,f2,rfl,?_,K3 pK.2 h2 Wu HS hA⟩;have pK:=pK.1;cases x with
   |sl fl e xs=>
    cases fl with
    |own t=>exact⟨by have:=h1.1;rw[Wu,HS]at this;exact this,by simp⟩
    |arg k'=>
     have hk:k'=k:=by simpa[AC.AH]using pK
     subst hk;exact⟨h1.1,by have:=h1.2;rw[Wu,<-hA]at this;exact this⟩
    |loc _ _=>cases pK
    |nest _ _ _ _ _ _=>cases pK
    |part _ _ _ _=>cases pK
    |ga _ _ _=>cases pK
   |int _ _=>exact h1
   |bool _=>exact h1
   |str _=>exact h1
   |fn _=>exact h1
   |kI=>cases pK
   |ptr _ _=>cases pK
   |Dy _ _ _ _ _=>cases pK
   |un=>cases pK
   |bot=>cases pK
theorem Tn (h:eJ C g st a w [])(s:Nat){A':Rg}(hA:∀b o,(df C g st w).S b o/\b<w.heap.size/\g.ft b≠some (.box s)->A' false b o):∀(xs:ax Operand),xs.all (Eh st)=true->
 rz A' w (xs.map a.eval) (xs.map (Dc st))
 |[],_=>trivial
 |x::xs,hx=>by
  simp only[cj,ae]at hx;refine⟨?_,Tn h s hA xs hx.2⟩;have hx:=hx.1;cases x with
  |const _=>exact Pt (h.rd _) hx
  |func _=>exact Pt (h.rd _) hx
  |global _=>exact Pt (h.rd _) hx
  |tmp t=>
   have iz:∀(t0:Nat){e:CT}{v:Value}{xs:ax e.D}{fp:fK},fZ g.hw w (.sl e) [v] xs fp->(∀b∈fp,g.ft b=some (.slot t0))->jX w (A' false) (.sl e) [v] xs:=by
    intro t0 e v xs fp h1 hl;have h3:fZ (λb=>if b∈fp then g.hw b else 0) w (.sl e) [v] xs fp:=fZ.mono h1 (λb hb=>⟨rfl,by simp[hb]⟩)
    exact fZ.rep (λb o ho=>by
     by_cases hb:b∈fp;have ho:o<g.hw b:=by simpa[hb]using ho
     have RT:=hl b hb;exact hA b o ⟨.inr ho,(h.gW b _ RT).1,by rw[RT];simp⟩;simp[hb]at ho) h3
   obtain⟨fp,hr,hn,hl⟩:=h.slot t;simp only[Eh]at hx;show gU _ (a.tmps.getD t undef) (Dc st (.tmp t)) _;simp only[Dc];cases hv:st.get t with
   |yh _=>rw[hv]at hx;cases hx
   |val gg cs=>
    rw[hv]at hx hr;simp only at hx;obtain⟨vs,gb,hr⟩:=hr
    have key:∀(cs:ax AC)(vs:jt)(fp:fK),(cs.map st.R3).all AC.Lp=true->(∀b∈fp,g.ft b=some (.slot t))->bU (df C g st w) vs cs fp->
     bU (gD A' (λ_=>0) w) vs (cs.map st.R3) []:=by
     intro cs
     induction cs with
     |nil=>intro vs fp _ _ h;cases vs with
      |nil=>rfl
      |cons _ _=>exact h.elim
     |cons c cs ih=>
      intro vs fp hc hl hr
      cases vs with
      |nil=>exact hr.elim
      |cons v vs=>
       obtain⟨f1,f2,rfl,h1,h2⟩:=hr
       simp only[dk,cj,ae]at hc
       refine⟨[],[],rfl,?_,ih vs f2 hc.2 (λb hb=>hl b (bw _ hb)) h2⟩
       have hc:=hc.1
       cases c with
       |sl fl e xs=>
        cases fl with
        |own tag=>exact⟨rfl,iz t h1.1 (λb hb=>hl b (bK _ hb))⟩
        |arg k=>exact⟨rfl,jX.mono (λb o u hs hu=>⟨hA b o ⟨.inl ⟨k,hs⟩,World.block_lt_of_cell? w _ hu,λhb=>h.Qd hb k o hs⟩,hu⟩) h1.2⟩
        |loc ep pv=>
         cases pv with
         |none=>cases hc
         |some q=>
          obtain⟨r,tg⟩:=q
          cases r with
          |box _ _=>cases hc
          |io _=>cases hc
          |slot b j=>
           have Vq:=(h1.2.2.2.2 (.slot b j) tg rfl).2
           simp only[AS.R3]at hc⊢
           cases hrg:st.fN (.slot b j)with
           |none=>rw[hrg]at hc;cases hc
           |some c0=>
            rw[hrg]at hc
            split at hc
            ·rename_i t' e' ys hc0
             split at hc
             ·rename_i ht
              subst ht
              cases hc0
              rw[aI rfl]
              obtain⟨fp2,RV,_,BK⟩:=h.slot b
              simp only[AS.fN]at hrg
              cases hgb:st.get b with
              |yh _=>rw[hgb]at hrg;cases hrg
              |val g2 FM=>
               rw[hgb]at hrg RV
               simp only at hrg
               obtain⟨vs2,_,RV⟩:=RV
               rw[eH]at hrg
               obtain⟨v2,f3,_,PV,rm⟩:=RV.get j _ hrg
               have avS:v=v2:=by have:=(PV.2 t' rfl).2;rw[Vq,this]
               rw[avS]
               exact⟨rfl,iz b PV.1 (λb' iI=>BK b' (rm b' iI))⟩
             ·cases hc
            ·cases hc
        |nest _ _ _ _ _ _=>cases hc
        |part _ _ _ _=>cases hc
        |ga _ _ _=>cases hc
       |int _ _=>exact⟨h1.1,rfl⟩
       |bool _=>exact⟨h1.1,rfl⟩
       |str _=>exact⟨h1.1,rfl⟩
       |fn _=>exact⟨h1.1,rfl⟩
       |kI=>cases hc
       |ptr _ _=>cases hc
       |Dy _ _ _ _ _=>cases hc
       |un=>cases hc
       |bot=>cases hc
    exact⟨vs,gb,key cs vs fp hx hl hr⟩
theorem eJ.alA (h:eJ C g st a w [])(s:Nat)(kQ:st.boxes[s]?=some (some cs)): ∃arr T fr fp,w.heap[g.β s]?=some (.cells arr T fr)/\ru arr fr/\bU (df C g st w) arr.toList cs fp/\fp.Nodup/\g.β s∉fp/\(∀b∈fp,b<w.heap.size)/\g.hw (g.β s)=0/\(∀b,b=g.β s\/b∈fp->g.ft b=some (.box s))/\ ∀(w':World)(hw':Nat->Nat)(jL:Array Value)(T':TypeId)(SS:Nat×Nat)(sq:ax AC)(lx fv:fK)(A':Rg)(k:Bool),Fr (λb=>b=g.β s\/b∈fp) w w'->w'.heap[g.β s]?=some (.cells jL T' SS)->ru jL SS-> A' true=C.A k->bU (gD A' hw' w') jL.toList sq lx->sq.all (AC.AH true)=true->lx.Nodup->g.β s∉lx->(∀b∈lx,b<w'.heap.size/\(b∈fp\/w.heap.size<=b))-> (∀b∈fv,b<w'.heap.size/\(b∈fp\/w.heap.size<=b)/\b∉lx/\b≠g.β s)-> ∃g',eJ C g' (adp st s (qY k (st.ja (some s)) 0 sq)) a w' []/\(∀b∈fv,g'.ft b=some (.hand 0)/\g'.hw b=hw' b)/\∀b,b<w.heap.size->g.ft b≠some (.box s)->g'.hw b=g.hw b:=by
 obtain⟨arr,T,fr,fp,lz,uv,hr,hn,yn,hl,Jq,Jt⟩:=h.boxes s cs kQ;have AW:s<st.boxes.length:=(aA.1 kQ).1;have PN:∀b,b=g.β s\/b∈fp->g.ft b=some (.box s):=by rintro b (rfl|hb);exact Jq;exact hl b hb
 refine⟨arr,T,fr,fp,lz,uv,hr,hn,yn,λb hb=>(h.gW b _ (hl b hb)).1,Jt,PN,?_⟩;intro w' hw' jL T' SS sq lx fv A' k kb JT XU hA' yo aow D7 JV LA MV;let bx':ax AC:=qY k (st.ja (some s)) 0 sq;let bZ:AS:=adp st s bx';let hw2:Nat->Nat:=λb=>if b∈lx\/b∈fv then hw' b else if b=g.β s then 0 else g.hw b
 let ajE:Nat->az kZ:=λb=>if b=g.β s\/b∈lx then some (.box s) else if b∈fv then some (.hand 0) else g.ft b
 let g':Gh:=⟨hw2,g.β,ajE,sB g.hdr (st.ja (some s)) jL.toList⟩
 have vY:bZ.boxes=st.boxes.set s (some bx'):=by show((st.fD s (some bx')).gn (some s)).boxes=_;rw[CV,lu]
 have PW:bZ.slots=st.slots:=by show((st.fD s (some bx')).gn (some s)).slots=_;rw[wF];rfl
 have RS:bZ.io=st.io:=by show((st.fD s (some bx')).gn (some s)).io=_;rw[Kn];rfl
 have NW:∀t,oc st t->oc bZ t:=λt ht=>by have h1:oc (st.fD s (some bx')) t:=ht;exact E0 (d:=some s) h1
 have hpr:∀t,jW st t->jW bZ t:=by rintro t ⟨c0,hc0⟩;by_cases vr:s=t;subst vr;exact⟨bx',by rw[vY];simp[AW]⟩;exact⟨c0,by rw[vY,aP vr];exact hc0⟩
 have afw:∀b,b<w.heap.size->g.ft b≠some (.box s)->b∉lx/\b∉fv/\b≠g.β s:=by intro b hb RT;refine⟨λhm=>?_,λhm=>?_,λhm=>RT (PN b (.inl hm))⟩;rcases(LA b hm).2 with h2|h2;exact RT (PN b (.inr h2));omega;rcases(MV b hm).2.1 with h2|h2;exact RT (PN b (.inr h2));omega
 have uG:∀b x,x≠ .box s->g.ft b=some x->ajE b=some x/\w'.heap[b]?=w.heap[b]?/\hw2 b=g.hw b:=by intro b x hx hb;have Hq:=(h.gW b x hb).1;have hnm:¬(b=g.β s\/b∈fp):=λhm=>hx (by have:=PN b hm;rw[hb]at this;simpa using this);obtain⟨n1,n2,n3⟩:=afw b Hq (by rw[hb];simpa using hx);refine⟨?_,kb.block b Hq hnm,?_⟩;show(if b=g.β s\/b∈lx then _ else if b∈fv then _ else _)=_;rw[aG (by rintro(h1|h1);exact n3 h1;exact n1 h1),aG n2];exact hb;show(if b∈lx\/b∈fv then _ else if b=g.β s then _ else _)=_;rw[aG (by rintro(h1|h1);exact n1 h1;exact n2 h1),aG n3]
 have hcA:∀k b o u,C.A k b o->w.cell? ⟨b,o,none⟩=some u->w'.cell? ⟨b,o,none⟩=some u:=by intro k b o u hA hu;have hb:b<w.heap.size:=World.block_lt_of_cell? w _ hu;rw[World.cell?_of_block (a:=⟨b,o,none⟩) (kb.block b hb (λhm=>h.Qd (PN b hm) k o hA))];exact hu
 have hle:(df C g st w).Le (df C g' bZ w'):=⟨rfl,λt ht=>⟨NW t ht,Ce ht⟩,hcA,Nat.le_succ _,λt ht=>⟨hpr t ht,rfl⟩,λhe=>absurd he (Nat.succ_ne_self _)⟩
 refine⟨g',h.step (λx=>x≠ .box s) hle h.defers ?_ ?_ ?_ ?_ (λb x hk hb=>uG b x hk hb) ?_ ?_ (λk u bv hk=>by simp at hk) (.inl ⟨by simp,RS⟩),λb hb=>?_,λb hb RT=>?_⟩;rw[PW];exact h.size;rw[PW,vY,aC];exact h.bsize;refine h.frame.trans kb (λb hb hm=>?_);rcases(h.gW b _ (PN b hm)).2 with h2|h2;omega;exact h2;intro b x hx;have DE:(if b=g.β s\/b∈lx then some (kZ.box s) else if b∈fv then some (.hand 0) else g.ft b)=some x:=hx;have hz:=kb.size;have hold:b∈fp\/w.heap.size<=b->C.w0.heap.size<=b\/C.M b:=by rintro(h2|h2);exact(h.gW b _ (hl b h2)).2;exact .inl (bp h.frame.size h2)
 split at DE;rename_i hm;rcases hm with rfl|hm;have:=h.gW _ _ Jq;exact⟨by omega,this.2⟩;exact⟨(LA b hm).1,hold (LA b hm).2⟩;split at DE;rename_i hm;exact⟨(MV b hm).1,hold (MV b hm).2.1⟩;have:=h.gW b x DE;exact⟨by omega,this.2⟩;intro i av hi;rw[PW]at hi;exact .inl ⟨by simp,hi,rfl⟩;intro t FM hb;rw[vY]at hb;by_cases vr:t=s;subst vr;rw[bJ]at hb;simp only[ch,AW]at hb;simp at hb;subst hb;refine .inr ⟨jL,T',SS,lx,JT,XU,?_,D7,JV,λb hb=>?_,?_,?_⟩
 have:=IG (c:=df C g' bZ w') (A':=A') (hw:=hw') (mk:=st.ja (some t)) (k:=k) hA' 0 (vs:=jL.toList) (xs:=sq) (fp:=lx) yo aow
  (λb hb=>by show(if b∈lx\/b∈fv then _ else _)=_;rw[aI (.inl hb)])
  (λi u hu q hq=>by
   rw[cy]at hq;have hm:=rf hq;have hm2:oc bZ q:=by have h1:st.ja (some t) i=some q:=hq;have h2:(st.fD t (some bx')).ja (some t) i=some q:=h1;exact(rf h2).2.1
   exact⟨hm2,Cd hu hq⟩)
 exact this;show(if b=g.β t\/b∈lx then _ else _)=_;rw[aI (.inr hb)];show(if g.β t=g.β t\/g.β t∈lx then _ else _)=_;rw[aI (.inl rfl)];show(if g.β t∈lx\/g.β t∈fv then _ else if g.β t=g.β t then _ else _)=_;rw[aG (by rintro(h1|h1);exact JV h1;exact(MV _ h1).2.2.2 rfl),aI rfl];rw[aP (cZ vr)]at hb;exact .inl ⟨by simpa using vr,hb,rfl⟩;obtain⟨_,_,h3,h4⟩:=MV b hb;refine⟨?_,?_⟩;show(if b=g.β s\/b∈lx then _ else if b∈fv then _ else _)=_;rw[aG (by rintro(h1|h1);exact h4 h1;exact h3 h1),aI hb];show(if b∈lx\/b∈fv then _ else _)=_;rw[aI (.inr hb)];obtain⟨n1,n2,n3⟩:=afw b hb RT;show(if b∈lx\/b∈fv then _ else if b=g.β s then _ else _)=_;rw[aG (by rintro(h1|h1);exact n1 h1;exact n2 h1),aG n3]
theorem Un:∀{vs:jt}{cs:ax AC}{fp:fK},bU c vs cs fp->cs.all AC.Jx=true->fp=[]
 |[],[],_,h,_=>h
 |[],_::_,_,h,_=>h.elim
 |_::_,[],_,h,_=>h.elim
 |v::vs,x::cs,fp,h,hx=>by
  obtain⟨f1,f2,rfl,h1,h2⟩:=h;simp only[cj,ae]at hx;rw[Un h2 hx.2,bD];have hx:=hx.1;cases x with
  |sl fl e xs=>cases fl<;>first|exact h1.1|cases hx
  |int k n=>exact h1.2
  |bool b=>exact h1.2
  |str s=>exact h1.2
  |fn f=>exact h1.2
  |kI=>cases hx
  |ptr _ _=>cases hx
  |Dy _ _ _ _ _=>cases hx
  |un=>cases hx
  |bot=>cases hx
theorem eJ.ahT (h:eJ C g st a w [])(s:Nat)(kQ:st.boxes[s]?=some (some cs))(Lz:cs.all AC.Jx=true): ∀(w':World)(hw':Nat->Nat)(jL:Array Value)(T':TypeId)(SS:Nat×Nat)(sq:ax AC)(lx fv:fK)(A':Rg)(k:Bool),Fr (λb=>b=g.β s) w w'->w'.heap[g.β s]?=some (.cells jL T' SS)->ru jL SS-> A' true=C.A k->bU (gD A' hw' w') jL.toList sq lx->sq.all (AC.AH true)=true->lx.Nodup->g.β s∉lx->(∀b∈lx,b<w'.heap.size/\w.heap.size<=b)-> (∀b∈fv,b<w'.heap.size/\w.heap.size<=b/\b∉lx/\b≠g.β s)-> ∃g',eJ C g' (st.fD s (some (qY k (λ_=>none) 0 sq))) a w' []/\(∀b∈fv,g'.ft b=some (.hand 0)/\g'.hw b=hw' b)/\∀b,b<w.heap.size->g.ft b≠some (.box s)->g'.hw b=g.hw b:=by
 obtain⟨arr,T,fr,fp,lz,uv,hr,hn,yn,hl,Jq,Jt⟩:=h.boxes s cs kQ;have aoh:fp=[]:=Un hr Lz;subst aoh;have AW:s<st.boxes.length:=(aA.1 kQ).1;intro w' hw' jL T' SS sq lx fv A' k kb JT XU hA' yo aow D7 JV LA MV;let bx':ax AC:=qY k (λ_=>none) 0 sq;let bZ:AS:=st.fD s (some bx');let hw2:Nat->Nat:=λb=>if b∈lx\/b∈fv then hw' b else if b=g.β s then 0 else g.hw b
 let ajE:Nat->az kZ:=λb=>if b=g.β s\/b∈lx then some (.box s) else if b∈fv then some (.hand 0) else g.ft b
 let g':Gh:=⟨hw2,g.β,ajE,g.hdr⟩
 have vY:bZ.boxes=st.boxes.set s (some bx'):=by show(st.fD s (some bx')).boxes=_;rw[lu]
 have hpr:∀t,jW st t->jW bZ t:=by rintro t ⟨c0,hc0⟩;by_cases vr:s=t;subst vr;exact⟨bx',by rw[vY];simp[AW]⟩;exact⟨c0,by rw[vY,aP vr];exact hc0⟩
 have hold:∀b,b<w.heap.size->b∉lx/\b∉fv:=by intro b hb;refine⟨λhm=>?_,λhm=>?_⟩;have:=(LA b hm).2;omega;have:=(MV b hm).2.1;omega
 have Hr:∀b,b<w.heap.size->b≠g.β s->hw2 b=g.hw b:=by intro b hb D9;show(if b∈lx\/b∈fv then _ else if b=g.β s then _ else _)=_;rw[aG (by rintro(h1|h1);exact(hold b hb).1 h1;exact(hold b hb).2 h1),aG D9]
 have uG:∀b x,x≠ .box s->g.ft b=some x->ajE b=some x/\w'.heap[b]?=w.heap[b]?/\hw2 b=g.hw b:=by intro b x hx hb;have Hq:=(h.gW b x hb).1;have D9:b≠g.β s:=λhm=>hx (by rw[hm,Jq]at hb;simpa using hb.symm);refine⟨?_,kb.block b Hq D9,Hr b Hq D9⟩;show(if b=g.β s\/b∈lx then _ else if b∈fv then _ else _)=_;rw[aG (by rintro(h1|h1);exact D9 h1;exact(hold b Hq).1 h1),aG (hold b Hq).2];exact hb
 have hcA:∀k b o u,C.A k b o->w.cell? ⟨b,o,none⟩=some u->w'.cell? ⟨b,o,none⟩=some u:=by intro k b o u hA hu;have hb:b<w.heap.size:=World.block_lt_of_cell? w _ hu;rw[World.cell?_of_block (a:=⟨b,o,none⟩) (kb.block b hb (λhm=>h.Qd (by rw[hm];exact Jq) k o hA))];exact hu
 have hle:(df C g st w).Le (df C g' bZ w'):=by
  refine⟨rfl,λt ht=>⟨ht,rfl⟩,hcA,bj _,λt ht=>⟨hpr t ht,rfl⟩,λ_ b o u ho hu=>?_⟩;have hb:b<w.heap.size:=World.block_lt_of_cell? w _ hu;have NY:o<g.hw b:=ho;have D9:b≠g.β s:=λe=>by rw[e,Jt]at NY;omega
  refine⟨by show o<hw2 b;rw[Hr b hb D9];exact NY,?_⟩;show w'.cell? ⟨b,o,none⟩=some u;rw[World.cell?_of_block (a:=⟨b,o,none⟩) (kb.block b hb D9)];exact hu
 refine⟨g',h.step (λx=>x≠ .box s) hle h.defers h.size ?_ ?_ ?_ (λb x hk hb=>uG b x hk hb) ?_ ?_ (λk u bv hk=>by simp at hk) (.inl ⟨by simp,rfl⟩),λb hb=>?_,λb hb RT=>?_⟩;rw[vY,aC];exact h.bsize;refine h.frame.trans kb (λb hb hm=>?_);have hm:b=g.β s:=hm;subst hm;rcases(h.gW _ _ Jq).2 with h2|h2;omega;exact h2;intro b x hx;have DE:(if b=g.β s\/b∈lx then some (kZ.box s) else if b∈fv then some (.hand 0) else g.ft b)=some x:=hx;have hz:=kb.size;split at DE;rename_i hm;rcases hm with rfl|hm;have:=h.gW _ _ Jq;exact⟨by omega,this.2⟩;exact⟨(LA b hm).1,.inl (bp h.frame.size (LA b hm).2)⟩;split at DE;rename_i hm;exact⟨(MV b hm).1,.inl (bp h.frame.size (MV b hm).2.1)⟩;have:=h.gW b x DE;exact⟨by omega,this.2⟩;intro i av hi;exact .inl ⟨by simp,hi,rfl⟩;intro t FM hb;rw[vY]at hb;by_cases vr:t=s;subst vr;rw[bJ]at hb;simp only[ch,AW]at hb;simp at hb;subst hb;refine .inr ⟨jL,T',SS,lx,JT,XU,?_,D7,JV,λb hb=>?_,?_,?_⟩;have:=IG (c:=df C g' bZ w') (A':=A') (hw:=hw') (mk:=λ_=>none) (k:=k) hA' 0 (vs:=jL.toList) (xs:=sq) (fp:=lx) yo aow (λb hb=>by show(if b∈lx\/b∈fv then _ else _)=_;rw[aI (.inl hb)]) (λi u hu q hq=>by cases hq);exact this;show(if b=g.β t\/b∈lx then _ else _)=_;rw[aI (.inr hb)];show(if g.β t=g.β t\/g.β t∈lx then _ else _)=_;rw[aI (.inl rfl)];show(if g.β t∈lx\/g.β t∈fv then _ else if g.β t=g.β t then _ else _)=_;rw[aG (by rintro(h1|h1);exact JV h1;exact(MV _ h1).2.2.2 rfl),aI rfl];rw[aP (cZ vr)]at hb;exact .inl ⟨by simpa using vr,hb,rfl⟩;obtain⟨_,_,h3,h4⟩:=MV b hb;refine⟨?_,?_⟩;show(if b=g.β s\/b∈lx then _ else if b∈fv then _ else _)=_;rw[aG (by rintro(h1|h1);exact h4 h1;exact h3 h1),aI hb];show(if b∈lx\/b∈fv then _ else _)=_;rw[aI (.inr hb)];exact Hr b hb (λe=>RT (by rw[e];exact Jq))
theorem an5 (CK:∀f,iZ P f (Γ f)){o':Oper}(ho:o'.op=.call {callee:=.value f,args,argTypes:=ts})(hg:eJ C g st a w []){k:Nat}(hf:st.rd f=.val false [.fn k])(kQ:(Γ k).bx=true){K:AS->az R}(hk:wR Γ o' k args.toList st K=some r)(next:Act->World->Prop)(Q:Exit->Act->World->Prop)(ix:∀bZ a' w',pL C bZ a' w'->K bZ=some r->next a' w'):o'.wp P a w next Q:=by
 have MV:=hg.rd f;rw[hf]at MV;have MV:=(fw MV).1;unfold wR at hk;split at hk
 ·rename_i x0 xs gP;split at hk
  ·rename_i s hx0;split at hk
   ·rename_i cs Ve;have hb:st.boxes[s]?=some (some cs):=by rw[eH]at Ve;cases hq:st.boxes[s]? with|none=>rw[hq]at Ve;simp at Ve|some q=>rw[hq]at Ve;simp at Ve;rw[Ve]
    cases hc:(cs.all (AC.AH (Fv cs))&&xs.all (Eh st))with
    |false=>rw[hc]at hk;cases hk
    |true=>
     rw[hc]at hk;simp only[ah]at hk;simp only[ae]at hc;cases iA:(Γ k).fn (.val true (cs.map AC.Wi)::xs.map (Dc st))with
     |none=>rw[iA]at hk;cases hk
     |some y=>
      rw[iA]at hk;simp only[aa]at hk;cases hc2:(((Γ k).back y).all (AC.AH true)&&((Γ k).av y).ags)with
      |false=>rw[hc2]at hk;cases hk
      |true=>
       rw[hc2]at hk;simp only[ah]at hk;simp only[ae]at hc2;obtain⟨⟨fn,c,Rv,XJ,D8⟩,_,_,DA,_⟩:=CK k _ y iA;have DA:=DA kQ _ _ rfl;have PU:=hg.rd x0;rw[hx0]at PU;have wM:=Dg PU;obtain⟨arr,T,fr,fp,lz,uv,fM,hn,yn,gH,Jt,Gn,si⟩:=hg.alA s hb;let A':Rg:=λq b o=>bif q then C.A (Fv cs) b o else((df C g st w).S b o/\b<w.heap.size/\g.ft b≠some (.box s))
       have hA':∀q b' o,A' q b' o->b'<w.heap.size/\b'≠g.β s/\b'∉fp:=by
        intro q b' o hq;have key:b'<w.heap.size/\g.ft b'≠some (.box s):=by cases q with|true=>have hq:C.A (Fv cs) b' o:=hq;exact⟨Nat.lt_of_lt_of_le (C.hA _ _ _ hq).1 hg.frame.size,λhb=>hg.Qd hb _ o hq⟩|false=>exact hq.2
        exact⟨key.1,λe=>key.2 (Gn b' (.inl e)),λe=>key.2 (Gn b' (.inr e))⟩
       have MT:=DA A' w (g.β s) (xs.map a.eval) arr T fr g.hw fp hA' lz uv (K3 (k:=Fv cs) hc.1 fM rfl rfl rfl) hn yn gH Jt (Tn hg s (λb o h=>h) xs hc.2);have avO:a.eval x0=.pointer (some ⟨g.β s,0,none⟩):=wM;have aoc:(Value.pointer (some ⟨g.β s,0,none⟩)::xs.map a.eval).toArray=args.map a.eval:=by apply fR;simp[gP,avO]
       rw[aoc]at MT;have fg:(execOp a.eval o').run P w=.ok (.enter k (args.map a.eval)) w:=by simp[execOp,ho,resolve,MV,Deferred.ofValue,invoke,callFunc,Rv,XJ];simpa using D8
       unfold Oper.wp;rw[fg,Oper.upon_enter];refine MT.mono ?_;rintro e w' ⟨v,hw',fv,jL,T',SS,lx,rfl,S3,JT,XU,yo,D7,JV,LA,hnv,ai6,kb⟩;show next (a.put o'.dst v) w'
       have tail:∀(st1:AS)(g':Gh),eJ C g' st1 a w' []->(∀b∈fv,g'.ft b=some (.hand 0)/\g'.hw b=hw' b)->(∀b,b<w.heap.size->g.ft b≠some (.box s)->g'.hw b=g.hw b)->
        K ((st1.gn o'.dst).put o'.dst (((Γ k).av y).Fw st1.ep (st1.ja o'.dst)))=some r->next (a.put o'.dst v) w':=by
        intro st1 g' pJ hlv hold hk
        have hAS:∀(hd:Nat->Value)(q:Bool)(b o:Nat),A' q b o->(df C {g' with hdr:=hd} (st1.gn o'.dst) w').S b o:=by intro hd q b o hq;cases q with|true=>exact .inl ⟨_,hq⟩|false=>rcases hq.1 with hs|hs;exact .inl hs;exact .inr (by show o<g'.hw b;rw[hold b hq.2.1 hq.2.2];exact hs)
        have ai4:∀b∈fv,g'.hw b=hw' b:=λb hb=>(hlv b hb).2
        have yo:∃hd,(∀t,oc st1 t->hd t=g'.hdr t)/\gU (df C {g' with hdr:=hd} (st1.gn o'.dst) w') v (((Γ k).av y).Fw st1.ep (st1.ja o'.dst)) fv:=by
         generalize (Γ k).av y=y at S3;cases y with
         |val gg cs=>obtain⟨vs,gb,hr⟩:=S3;refine⟨sB g'.hdr (st1.ja o'.dst) vs,λt ht=>Ce ht,vs,gb,?_⟩;have:=CS (c:=df C {g' with hdr:=sB g'.hdr (st1.ja o'.dst) vs} (st1.gn o'.dst) w') (mk:=st1.ja o'.dst) (hAS _) 0 hr ai4 (λi u hu t ht=>by rw[cy]at ht;exact⟨(rf ht).2.1,Cd hu ht⟩);have Aw:(df C {g' with hdr:=sB g'.hdr (st1.ja o'.dst) vs} (st1.gn o'.dst) w').ep=st1.ep:=B6;rw[Aw]at this;exact this
         |yh ts=>obtain⟨ws,hv,hr⟩:=S3;obtain⟨all,IT⟩:=LR hr;refine⟨sB g'.hdr (st1.ja o'.dst) all,λt ht=>Ce ht,ws,hv,?_⟩;have:=Qf (c:=df C {g' with hdr:=sB g'.hdr (st1.ja o'.dst) all} (st1.gn o'.dst) w') (mk:=st1.ja o'.dst) (hAS _) IT 0 ai4 (λi u hu t ht=>by rw[cy]at ht;exact⟨(rf ht).2.1,Cd hu ht⟩);have Aw:(df C {g' with hdr:=sB g'.hdr (st1.ja o'.dst) all} (st1.gn o'.dst) w').ep=st1.ep:=B6;rw[Aw]at this;exact this
        obtain⟨hd,hhd,yo⟩:=yo
        obtain⟨g2,IU⟩:=pJ.QE o'.dst (hw':=g'.hw) (hdr':=hd) (fp:=fv) (st1:=st1.gn o'.dst) Kn wF CV B6 (λt ht=>⟨E0 ht,hhd t ht⟩)
         (Fr.refl _ _) (λ_ _ _ _=>rfl) (λ_ _ _ ho hu=>⟨ho,hu⟩) yo hnv (λb hb=>⟨(ai6 b hb).1,.inl (by rw[(hlv b hb).1];rfl)⟩)
        exact ix _ _ _ ⟨g2,IU⟩ hk
       cases hcur:((Γ k).cur&&cs.all AC.Jx)with
       |false=>rw[hcur]at hk;obtain⟨g',pJ,hlv,hold⟩:=si w' hw' jL T' SS ((Γ k).back y) lx fv A' (Fv cs) kb JT XU rfl yo hc2.1 D7 JV LA ai6;exact tail _ g' pJ hlv hold hk
       |true=>rw[hcur]at hk;simp only[ae]at hcur;have aoh:fp=[]:=Un fM hcur.2;subst aoh;obtain⟨g',pJ,hlv,hold⟩:=hg.ahT s hb hcur.2 w' hw' jL T' SS ((Γ k).back y) lx fv A' (Fv cs) ⟨kb.os,kb.tape,kb.output,kb.size,λb hb hm=>kb.block b hb (λhh=>hm (hh.resolve_right (by simp)))⟩ JT XU rfl yo hc2.1 D7 JV (λb hb=>⟨(LA b hb).1,(LA b hb).2.resolve_left (by simp)⟩) (λb hb=>⟨(ai6 b hb).1,(ai6 b hb).2.1.resolve_left (by simp),(ai6 b hb).2.2⟩);exact tail _ g' pJ hlv hold hk
   cases hk
  cases hk
 cases hk
theorem arg_val (hA:c'.A=c.A)(hw:c'.w=c.w){x:AV}(h:gU c v x fp)(hx:x.Lp=true):fp=[]/\gU c' v x []:=by
 cases x with
 |yh _=>cases hx
 |val g cs=>
  obtain⟨vs,gb,h⟩:=h
  have key:∀(cs:ax AC)(vs:jt)(fp:fK),bU c vs cs fp->cs.all AC.Lp=true->fp=[]/\bU c' vs cs []:=by
   intro cs
   induction cs with
   |nil=>intro vs fp h _;cases vs with
    |nil=>exact⟨h,rfl⟩
    |cons _ _=>exact h.elim
   |cons x cs ih=>
    intro vs fp h hx
    cases vs with
    |nil=>exact h.elim
    |cons v vs=>
     obtain⟨f1,f2,rfl,h1,h2⟩:=h
     simp only[cj,ae]at hx
     obtain⟨rfl,k2⟩:=ih vs f2 h2 hx.2
     have hx:=hx.1
     have one:f1=[]/\iC c' v x []:=by
      cases x with
      |sl fl e xs=>cases fl with|arg k=>exact⟨h1.1,rfl,by rw[hA,hw];exact h1.2⟩|own _=>cases hx|loc _ _=>cases hx|nest _ _ _ _ _ _=>cases hx|part _ _ _ _=>cases hx|ga _ _ _=>cases hx
      |int _ _=>exact ti h1 rfl
      |bool _=>exact ti h1 rfl
      |str _=>exact ti h1 rfl
      |fn _=>exact ti h1 rfl
      |kI=>cases hx
      |ptr _ _=>cases hx
      |Dy _ _ _ _ _=>cases hx
      |un=>cases hx
      |bot=>cases hx
     obtain⟨rfl,k1⟩:=one
     exact⟨rfl,[],[],rfl,k1,k2⟩
  obtain⟨e,k⟩:=key cs vs fp h hx;exact⟨e,vs,gb,k⟩
theorem WH (h:eJ C g st a w []):∀(xs:ax Operand),xs.all (λx=>(st.rd x).Lp)=true->rz C.A w (xs.map a.eval) (xs.map st.rd)
 |[],_=>trivial
 |x::xs,hf=>by simp only[cj,ae]at hf;exact⟨(arg_val (c:=df C g st w) (c':=gD C.A (λ_=>0) w) rfl rfl (h.rd x) hf.1).2,WH h xs hf.2⟩
theorem apn (CK:∀f,iZ P f (Γ f)){o':Oper}(ho:o'.op=.call {callee:=.value f,args,argTypes:=ts})(hg:eJ C g st a w []){k:Nat}(hf:st.rd f=.val false [.fn k])(hpr:(Γ k).pr=true){K:AS->az R}(hk:agt Γ o' k args.toList st K=some r)(next:Act->World->Prop)(Q:Exit->Act->World->Prop)(ix:∀bZ a' w',pL C bZ a' w'->K bZ=some r->next a' w'):o'.wp P a w next Q:=by
 have MV:=hg.rd f;rw[hf]at MV;have MV:=(fw MV).1;unfold agt at hk;split at hk
 ·rename_i d hd;split at hk
  ·rename_i Ht;cases hc:args.toList.all (λx=>(st.rd x).Lp)with
   |false=>rw[hc]at hk;cases hk
   |true=>
    rw[hc]at hk;simp only[ah]at hk;cases iA:(Γ k).fn (args.toList.map st.rd)with
    |none=>rw[iA]at hk;cases hk
    |some y=>
     rw[iA]at hk;simp only[aa]at hk;cases hc2:((Γ k).back y).all AC.Lp with
     |false=>rw[hc2]at hk;cases hk
     |true=>
      rw[hc2]at hk;simp only[ah]at hk;obtain⟨⟨fn,c,Rv,XJ,D8⟩,_,_,_,DA⟩:=CK k _ y iA;have MT:=DA hpr C.A w (args.toList.map a.eval) (λq b o hq=>Nat.lt_of_lt_of_le (C.hA q b o hq).1 hg.frame.size) (WH hg _ hc);have gP:(args.toList.map a.eval).toArray=args.map a.eval:=by apply fR;simp
      rw[gP]at MT;have fg:(execOp a.eval o').run P w=.ok (.enter k (args.map a.eval)) w:=by simp[execOp,ho,resolve,MV,Deferred.ofValue,invoke,callFunc,Rv,XJ];simpa using D8
      unfold Oper.wp;rw[fg,Oper.upon_enter];refine MT.mono ?_;rintro e w' ⟨b,arr,T,fr,hw,rfl,hb,lz,uv,fM,kb⟩;show next (a.put o'.dst (.pointer (some ⟨b,0,none⟩))) w'
      rw[eH]at Ht;have Hq:=nz lz;have D9:∀b' x,g.ft b'=some x->b'≠b:=λb' x hx e=>by have:=(hg.gW b' x hx).1;omega
      have hr1:bU ⟨λb'=>if b'=b then 0 else g.hw b',λt=>if t=d then b else g.β t,C.A,g.hdr,oc st,st.ep,jW st,w'⟩ arr.toList ((Γ k).back y) []:=by
       have hv:gU (gD C.A hw w') (.agg arr.toList.toArray) (.val true ((Γ k).back y)) []:=⟨arr.toList,rfl,fM⟩
       obtain⟨_,vs,gb,h⟩:=arg_val (c:=gD C.A hw w') (c':=⟨λb'=>if b'=b then 0 else g.hw b',λt=>if t=d then b else g.β t,C.A,g.hdr,oc st,st.ep,jW st,w'⟩) rfl rfl hv hc2;have:arr.toList=vs:=by have gb:Value.agg arr.toList.toArray=.agg vs.toArray:=gb;simp only[Value.agg.injEq]at gb;simpa using congrArg Array.toList gb
       rw[this];exact h
      obtain⟨g',LC,h'⟩:=hg.aam d (cs:=(Γ k).back y) (arr:=arr) (T:=T) (fr:=fr) (fp:=[]) (w':=w') (bnew:=b) (hw':=λb'=>if b'=b then 0 else g.hw b') (.inr ⟨hb,Ht⟩) ⟨kb.os,kb.tape,kb.output,kb.size,λb' iI _=>kb.block b' iI (λm=>m)⟩ lz uv Hq (by simp) (λb' x hx _ hn=>by simp[hn]) (λb' o u ho hu=>by have iI:b'<w.heap.size:=World.block_lt_of_cell? w _ hu;exact⟨by simp[show b'≠b by omega];exact ho,BI kb hu⟩) hr1 List.nodup_nil (by simp) (λb' iI=>by cases iI);have hdl:d<st.boxes.length:=(aA.1 Ht).1;have hq:=h'.quiet (some d) (v:=.pointer (some ⟨b,0,none⟩)) (av:=.one (.ptr d 0)) (nP ⟨by simp[df,LC],⟨(Γ k).back y,by rw[lu];simp[hdl]⟩,rfl⟩);rw[hd];exact ix _ _ _ ⟨g',hq⟩ hk
  cases hk
 cases hk
theorem alE (CK:∀f,iZ P f (Γ f)){o':Oper}(ho:o'.op=.call {callee:=.value f,args,argTypes:=ts})(h:pL C st a w){K:AS->az R}(hk:Fy Γ o' f args.toList st K=some r)(next:Act->World->Prop)(Q:Exit->Act->World->Prop)(ix:∀bZ a' w',pL C bZ a' w'->K bZ=some r->next a' w'):o'.wp P a w next Q:=by
 obtain⟨g,hg⟩:=h;unfold Fy at hk;split at hk
 ·rename_i k hf
  have MV:=hg.rd f
  rw[hf]at MV
  have MV:=(fw MV).1
  cases kQ:(Γ k).bx with
  |true=>rw[kQ]at hk;exact an5 CK ho hg hf kQ hk next Q ix
  |false=>
  rw[kQ]at hk
  simp only[af]at hk
  cases hpr:(Γ k).pr with
  |true=>rw[hpr]at hk;exact apn CK ho hg hf hpr hk next Q ix
  |false=>
  rw[hpr]at hk
  simp only[af]at hk
  cases RS:(Γ k).io with
  |true=>rw[RS]at hk;cases hk
  |false=>
  rw[RS]at hk
  simp only[af]at hk
  cases iA:(Γ k).fn (args.toList.map λx=>((st.rd x).fresh st).asArg st.ep)with
  |none=>rw[iA]at hk;cases hk
  |some y0=>
   rw[iA]at hk
   simp only[aa]at hk
   obtain⟨⟨fn,c,Rv,XJ,D8⟩,DA,_⟩:=CK k _ y0 iA
   have DA:=DA RS kQ
   have hk:K ((st.gn o'.dst).put o'.dst (((Γ k).res y0).Fw st.ep (st.ja o'.dst)))=some r:=by unfold lr.res;cases RX:(Γ k).sel y0 with|true=>rw[RX]at hk;exact hk|false=>rw[RX]at hk;exact hk
   generalize hy0:(Γ k).res y0=y at hk DA
   have MT:=DA (λ_ b o=>(df C g st w).S b o/\b<w.heap.size) w (args.toList.map a.eval) (λ_ _ _ h=>h.2) (WI hg args.toList)
   have gP:(args.toList.map a.eval).toArray=args.map a.eval:=by apply fR;simp
   rw[gP]at MT
   have fg:(execOp a.eval o').run P w=.ok (.enter k (args.map a.eval)) w:=by simp[execOp,ho,resolve,MV,Deferred.ofValue,invoke,callFunc,Rv,XJ];simpa using D8
   unfold Oper.wp
   rw[fg,Oper.upon_enter]
   refine MT.mono ?_
   rintro e w' ⟨v,hw,fp,rfl,fM,Hs,FC,kb⟩
   show next (a.put o'.dst v) w'
   let hw':Nat->Nat:=λb=>if b∈fp then hw b else g.hw b
   have abA:∀b,b<w.heap.size->b∉fp:=λb hb hm=>by have:=(FC b hm).1;omega
   have hA':∀(hd:Nat->Value)(_:Bool)(b o:Nat),((df C g st w).S b o/\b<w.heap.size)->(df C {g with hw:=hw',hdr:=hd} (st.gn o'.dst) w').S b o:=by rintro hd _ b o ⟨hs,hb⟩;rcases hs with hs|hs;exact .inl hs;exact .inr (by simp only[df,hw',aG (abA b hb)];exact hs)
   have yo:∃hd,(∀t,oc st t->hd t=g.hdr t)/\gU (df C {g with hw:=hw',hdr:=hd} (st.gn o'.dst) w') v (y.Fw st.ep (st.ja o'.dst)) fp:=by
    have ai4:∀b∈fp,hw' b=hw b:=λb hb=>by simp[hw',hb]
    cases y with
    |val gg cs=>obtain⟨vs,gb,hr⟩:=fM;refine⟨sB g.hdr (st.ja o'.dst) vs,λt ht=>Ce ht,vs,gb,?_⟩;have:=CS (c:=df C {g with hw:=hw',hdr:=sB g.hdr (st.ja o'.dst) vs} (st.gn o'.dst) w') (mk:=st.ja o'.dst) (hA' _) 0 hr ai4 (λi u hu t ht=>by rw[cy]at ht;exact⟨(rf ht).2.1,Cd hu ht⟩);have Aw:(df C {g with hw:=hw',hdr:=sB g.hdr (st.ja o'.dst) vs} (st.gn o'.dst) w').ep=st.ep:=B6;rw[Aw]at this;exact this
    |yh ts=>obtain⟨ws,hv,hr⟩:=fM;obtain⟨all,IT⟩:=LR hr;refine⟨sB g.hdr (st.ja o'.dst) all,λt ht=>Ce ht,ws,hv,?_⟩;have:=Qf (c:=df C {g with hw:=hw',hdr:=sB g.hdr (st.ja o'.dst) all} (st.gn o'.dst) w') (mk:=st.ja o'.dst) (hA' _) IT 0 ai4 (λi u hu t ht=>by rw[cy]at ht;exact⟨(rf ht).2.1,Cd hu ht⟩);have Aw:(df C {g with hw:=hw',hdr:=sB g.hdr (st.ja o'.dst) all} (st.gn o'.dst) w').ep=st.ep:=B6;rw[Aw]at this;exact this
   obtain⟨hd,hhd,yo⟩:=yo
   obtain⟨g',pJ⟩:=hg.QE o'.dst (hw':=hw') (hdr':=hd) (fp:=fp) (st1:=st.gn o'.dst) Kn wF CV B6 (λt ht=>⟨E0 ht,hhd t ht⟩)
    ⟨kb.os,kb.tape,kb.output,kb.size,λb hb _=>kb.block b hb (λm=>m)⟩ (λb x hx _=>by simp[hw',abA b (hg.gW b x hx).1])
    (λb o u ho hu=>by have hb:b<w.heap.size:=World.block_lt_of_cell? w _ hu;exact⟨by simp[hw',abA b hb];exact ho,BI kb hu⟩) yo Hs (λb hb=>⟨(FC b hb).2,.inr (FC b hb).1⟩)
   exact ix _ _ _ ⟨g',pJ⟩ hk
 cases hk
end Go.Dn
