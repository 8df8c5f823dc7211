import Derived.Test.YtgbaemfepmabgaaGreatDnRel
/- The relation between an abstract state and the model's frame and memory. -/
namespace Go.Dn
open Go.RowKit
variable {st:AS} {a:Act} {c:RC} {v:Value} {hs:aw (Value×AV)} {d:az Nat} {fp:fu}
inductive jX where
 |slot (i:Nat)|box (s:Nat)|hand (k:Nat)|io
 deriving DecidableEq
structure Gh where
 hw:Nat->Nat
 β:Nat->Nat
 lab:Nat->Option jX
 hdr:Nat->Value
variable {g:Gh}
def mM (st:AS)(t:Nat):Prop:=t%3≠2\/(nth st.iss (t/3/4096)).getD true=true
def jq (st:AS)(s:Nat):Prop:=∃cs,st.boxes[s]?=some (some cs)
structure Fr (M:Nat->Prop) (w w':World):Prop where
 os:w'.os=w.os
 tape:w'.tape=w.tape
 output:w'.output=w.output
 size:w.heap.size<=w'.heap.size
 block:∀b,b<w.heap.size->¬M b->w'.heap[b]?=w.heap[b]?
theorem Fr.refl (M:Nat->Prop)(w:World):Fr M w w:=⟨rfl,rfl,rfl,bh _,λ_ _ _=>rfl⟩
theorem Fr.trans {M M':Nat->Prop}{w w1 w2:World}(h:Fr M w w1)(k:Fr M' w1 w2)(hM:∀b,b<w.heap.size->M' b->M b):Fr M w w2:=⟨k.os.trans h.os,k.tape.trans h.tape,k.output.trans h.output,bt h.size k.size,λb hb hm=>(k.block b (Nat.lt_of_lt_of_le hb h.size) (λm=>hm (hM b hb m))).trans (h.block b hb hm)⟩
theorem Fr.below {w w':World}(h:Fr (λ_=>False) w w'):Below w.heap.size w w':=⟨h.os,h.tape,h.output,h.size,λk hk=>h.block k hk (λm=>m)⟩
structure Ctx where
 A:Rg
 M:Nat->Prop
 w0:World
 ioV:List Value
 hA:∀k b o,A k b o->b<w0.heap.size/\¬M b
variable {C:Ctx}
def dc (C:Ctx)(g:Gh)(st:AS)(w:World):RC:=⟨g.hw,g.β,C.A,g.hdr,mM st,st.ep,jq st,w⟩
def V5 (C:Ctx)(g:Gh)(st:AS)(a:Act)(w:World)(i:Nat)(av:AV):Prop:=
 ∃fp,gE (dc C g st w) (a.tmps.getD i undef) av fp/\fp.Nodup/\∀b∈fp,g.lab b=some (.slot i)
def aie (C:Ctx)(g:Gh)(st:AS)(w:World)(s:Nat)(cs:aw AC):Prop:=
 ∃arr T fr fp,w.heap[g.β s]?=some (.cells arr T fr)/\pS arr fr/\bR (dc C g st w) arr.toList cs fp/\fp.Nodup/\g.β s∉fp/\
  (∀b∈fp,g.lab b=some (.box s))/\g.lab (g.β s)=some (.box s)/\g.hw (g.β s)=0
def HH (C:Ctx)(g:Gh)(st:AS)(w:World)(k:Nat)(v:Value)(av:AV):Prop:=
 ∃fp,gE (dc C g st w) v av fp/\fp.Nodup/\∀b∈fp,g.lab b=some (.hand k)
structure ez (C:Ctx) (g:Gh) (st:AS) (a:Act) (w:World) (hs:List (Value×AV)):Prop where
 defers:a.defers=[]
 size:a.tmps.size=st.slots.length
 bsize:st.boxes.length=st.slots.length
 slots:∀i av,st.slots[i]?=some av->V5 C g st a w i av
 boxes:∀s cs,st.boxes[s]?=some (some cs)->aie C g st w s cs
 hands:∀k v av,hs[k]?=some (v,av)->HH C g st w k v av
 labs:∀b x,g.lab b=some x->b<w.heap.size/\(C.w0.heap.size<=b\/C.M b)
 frame:Fr C.M C.w0 w
 io:∃fp,bR (dc C g st w) C.ioV st.io fp/\fp.Nodup/\∀b∈fp,g.lab b=some .io
def oa (C:Ctx)(st:AS)(a:Act)(w:World):Prop:=∃g,ez C g st a w []
theorem ez.Me {w:World}(h:ez C g st a w hs){b:Nat}{x:jX}(hx:g.lab b=some x)(k:Bool)(o:Nat):¬C.A k b o:=by intro hA;have h1:=C.hA k b o hA;rcases(h.labs b x hx).2 with h2|h2;omega;exact h1.2 h2
theorem ez.step {g':Gh}{st':AS}{a':Act}{w w':World}{hs':aw (Value×AV)}(h:ez C g st a w hs)(Kp:jX->Prop)(hle:(dc C g st w).Le (dc C g' st' w'))(hdef:a'.defers=[])(hsz:a'.tmps.size=st'.slots.length)(hbsz:st'.boxes.length=st'.slots.length)(hfr:Fr C.M C.w0 w')(hlab:∀b x,g'.lab b=some x->b<w'.heap.size/\(C.w0.heap.size<=b\/C.M b))(hkeep:∀b x,Kp x->g.lab b=some x->g'.lab b=some x/\w'.heap[b]?=w.heap[b]?/\g'.hw b=g.hw b)(hslots:∀i av,st'.slots[i]?=some av-> (Kp (.slot i)/\st.slots[i]?=some av/\a'.tmps.getD i undef=a.tmps.getD i undef)\/V5 C g' st' a' w' i av)(hboxes:∀s cs,st'.boxes[s]?=some (some cs)-> (Kp (.box s)/\st.boxes[s]?=some (some cs)/\g'.β s=g.β s)\/aie C g' st' w' s cs)(hhands:∀k v av,hs'[k]?=some (v,av)-> (Kp (.hand k)/\hs[k]?=some (v,av))\/HH C g' st' w' k v av)(hio:(Kp .io/\st'.io=st.io)\/∃fp,bR (dc C g' st' w') C.ioV st'.io fp/\fp.Nodup/\∀b∈fp,g'.lab b=some .io): ez C g' st' a' w' hs':=by refine⟨hdef,hsz,hbsz,λi av hi=>?_,λs cs hs=>?_,λk v av hk=>?_,hlab,hfr,?_⟩;rotate_right;rcases hio with⟨kp,h1⟩|h1;obtain⟨fp,hr,hn,hl⟩:=h.io;refine⟨fp,?_,hn,λb hb=>(hkeep b _ kp (hl b hb)).1⟩;rw[h1];exact hr.mono hle (λb hb=>(hkeep b _ kp (hl b hb)).2);exact h1;rcases hslots i av hi with⟨kp,h1,h2⟩|h1;obtain⟨fp,hr,hn,hl⟩:=h.slots i av h1;refine⟨fp,?_,hn,λb hb=>(hkeep b _ kp (hl b hb)).1⟩;rw[h2];exact hr.mono hle (λb hb=>(hkeep b _ kp (hl b hb)).2);exact h1;rcases hboxes s cs hs with⟨kp,h1,h2⟩|h1;obtain⟨arr,T,fr,fp,hb,hth,hr,hn,hni,hl,hl0,hw0⟩:=h.boxes s cs h1;have hk0:=hkeep _ _ kp hl0;rw[<-h2]at hk0 hb hni hw0;exact⟨arr,T,fr,fp,hk0.2.1.trans hb,hth,hr.mono hle (λb hb=>(hkeep b _ kp (hl b hb)).2),hn,hni,λb hb=>(hkeep b _ kp (hl b hb)).1,hk0.1,hk0.2.2.trans hw0⟩;exact h1;rcases hhands k v av hk with⟨kp,h1⟩|h1;obtain⟨fp,hr,hn,hl⟩:=h.hands k v av h1;exact⟨fp,hr.mono hle (λb hb=>(hkeep b _ kp (hl b hb)).2),hn,λb hb=>(hkeep b _ kp (hl b hb)).1⟩;exact h1
theorem get_eq {i:Nat}{av:AV}(h:st.slots[i]?=some av):st.get i=av:=by simp[AS.get,ei,h]
theorem gE.bot (c:RC)(v:Value):gE c v .bot []:=⟨[v],by simp[Cut],[],[],rfl,rfl,rfl⟩
theorem ez.slot {w:World}(h:ez C g st a w hs)(i:Nat): V5 C g st a w i (st.get i):=by
 by_cases hi:i<st.slots.length;have:=al hi;rw[get_eq this];exact h.slots i _ this;have:st.get i=.bot:=by simp[AS.get,ei,bG (Nat.le_of_not_lt hi)]
 rw[this];exact⟨[],gE.bot _ _,by simp,by simp⟩
theorem Ms {hw:Nat->Nat}{w:World}{e:CT}{xs:aw e.D}(h:fM hw w (.sl e) [v] xs fp):∃o n k,v=.slice o n k/\n=xs.length:=by obtain⟨u,hu,h⟩:=h;simp at hu;subst hu;rcases h with⟨⟨a,rfl⟩,rfl,_⟩|⟨b,o0,cap,arr,T,fr,fps,rfl,_⟩;exact⟨_,_,_,rfl,rfl⟩;exact⟨_,_,_,rfl,rfl⟩
theorem hY.borrow {x:AC}(r:hY c v x fp)(rt:az kG):hY c v (x.borrow c.ep rt) []:=by
 cases x with
 |sl fl e xs=>
  cases fl with
  |own tag=>
   simp only[AC.borrow,hY]
   have hh:=Ms r.1
   refine⟨cx,bh _,hh,λ_=>fM.rep (λb o ho=> .inr ho) r.1,λr' t hp=>?_⟩
   cases rt with
   |none=>simp at hp
   |some r0=>
    cases tag with
    |none=>simp at hp
    |some t0=>
     simp at hp
     obtain⟨_,rfl⟩:=hp
     exact⟨(r.2 t0 rfl).1,(r.2 t0 rfl).2⟩
  |loc ep' pv'=>obtain⟨h1,h2⟩:=r;exact⟨rfl,h2⟩
  |arg _=>exact⟨rfl,r.2⟩
  |nest _ _ _ _ _ _=>exact⟨rfl,r.2⟩
  |part _ _ _ _=>exact⟨rfl,r.2⟩
  |holed tag i ep0=>
   obtain⟨h1,⟨k,hk,h3⟩,h4⟩:=r
   cases ep0 with
   |none=>exact rfl
   |some ep0=>
   simp only[AC.borrow,hY]
   refine⟨cx,(h1 ep0 rfl).1,?_,(h1 ep0 rfl).2,λr' t hp=>?_⟩
   ·obtain⟨b,o0,cap,arr,T,fr,fps,rfl,_⟩:=h3
    exact⟨_,_,_,rfl,rfl⟩
   ·cases rt with
    |none=>simp at hp
    |some r0=>
     cases tag with
     |none=>simp at hp
     |some t0=>
      simp at hp
      obtain⟨_,rfl⟩:=hp
      exact h4 t0 rfl
 |int k n=>exact⟨r.1,rfl⟩
 |bool b=>exact⟨r.1,rfl⟩
 |str s=>exact⟨r.1,rfl⟩
 |nilsl=>exact⟨r.1,rfl⟩
 |ptr s off=>exact⟨r.1,r.2.1,rfl⟩
 |fn f=>exact⟨r.1,rfl⟩
 |un=>exact⟨r.1,rfl⟩
 |bot=>exact rfl
 |elt fl e y i off=>
  cases fl with
  |own tag=>exact r
  |loc ep' pv'=>exact⟨rfl,r.2⟩
  |arg _=>exact⟨rfl,r.2⟩
  |nest _ _ _ _ _ _=>exact r.elim
  |part _ _ _ _=>exact r.elim
  |holed _ _ _=>exact r.elim
theorem bR.bc {c:RC}:∀{vs:iS}{xs:aw AC}{fp:fu},bR c vs xs fp->bR c vs (bc c.ep xs) []
 |[],[],_,_=>rfl
 |_::_,_::_,_,r=>by obtain⟨f1,f2,rfl,r1,r2⟩:=r;exact⟨[],[],rfl,r1.borrow none,bR.bc r2⟩
 |[],_::_,_,r=>r.elim
 |_::_,[],_,r=>r.elim
theorem hY.Yx {x:AC}(r:hY c v (x.borrow c.ep none) []):hY c v (x.borrow 0 none) []:=by
 cases x with
 |sl fl e xs=>cases fl with|own tag=>simp only[AC.borrow,hY]at r⊢;exact⟨cx,cf _,r.2.2.1,λ_=>r.2.2.2.1 trivial,λ_ _ hp=>nomatch hp⟩|holed tag i ep=>cases ep<;>exact r|loc ep pv=>exact r|arg _=>exact r|nest _ _ _ _ _ _=>exact r|part _ _ _ _=>exact r
 |int _ _=>exact r
 |bool _=>exact r
 |str _=>exact r
 |nilsl=>exact r
 |ptr _ _=>exact r
 |fn _=>exact r
 |un=>exact r
 |bot=>exact r
 |elt _ _ _ _ _=>exact r
theorem bR.Yx:∀{vs:iS}{xs:aw AC}{fp:fu},bR c vs xs fp->bR c vs (Dn.bc 0 xs) []
 |[],[],_,_=>rfl
 |_::_,_::_,_,r=>by obtain⟨f1,f2,rfl,r1,r2⟩:=r;exact⟨[],[],rfl,(r1.borrow none).Yx,bR.Yx r2⟩
 |[],_::_,_,r=>r.elim
 |_::_,[],_,r=>r.elim
theorem bR.borrow (f:Nat->kG):∀{vs:iS}{xs:aw AC}{fp:fu}(j:Nat),bR c vs xs fp->bR c vs (iK c.ep f j xs) []
 |[],[],_,_,_=>rfl
 |_::_,_::_,_,j,r=>by obtain⟨f1,f2,rfl,r1,r2⟩:=r;exact⟨[],[],rfl,r1.borrow _,bR.borrow f (j+1) r2⟩
 |[],_::_,_,_,r=>r.elim
 |_::_,[],_,_,r=>r.elim
theorem qw.bc:∀{vs:iS}{xs:aw (Bool×aw AC)}{fp:fu},gE.qw c vs xs fp->gE.qw c vs (xs.map λx=>(x.1,Dn.bc c.ep x.2)) []
 |[],[],_,_=>rfl
 |_::_,_::_,_,r=>by obtain⟨f1,f2,rfl,⟨vs,hv,r1⟩,r2⟩:=r;exact⟨[],[],rfl,⟨vs,hv,r1.bc⟩,qw.bc r2⟩
 |[],_::_,_,r=>r.elim
 |_::_,[],_,r=>r.elim
theorem gE.bc {x:AV}(r:gE c v x fp):gE c v (x.bc c.ep) []:=by
 cases x with
 |val g cs=>obtain⟨vs,hv,r⟩:=r;exact⟨vs,hv,r.bc⟩
 |tup ts=>obtain⟨ws,hv,r⟩:=r;exact⟨ws,hv,qw.bc r⟩
theorem ez.am0 {w:World}(h:ez C g st a w hs)(t:Nat): gE (dc C g st w) (a.tmps.getD t undef) ((st.get t).borrow st.ep (.slot t)) []:=by obtain⟨fp,hr,_,_⟩:=h.slot t;cases hg:st.get t with|tup ts=>rw[hg]at hr;exact hr.bc|val gg cs=>rw[hg]at hr;obtain⟨vs,hv,hr⟩:=hr;exact⟨vs,hv,bR.borrow (c:=dc C g st w) (.slot t) 0 hr⟩
theorem agK (c:RC)(v:Value):gE c v (ofConst v) []:=by unfold ofConst;split;exact⟨_,rfl,[],[],rfl,⟨rfl,rfl⟩,rfl⟩;exact⟨_,rfl,[],[],rfl,⟨rfl,rfl⟩,rfl⟩;exact⟨_,rfl,[],[],rfl,⟨by simp,rfl⟩,rfl⟩;exact⟨_,rfl,[],[],rfl,⟨rfl,rfl⟩,rfl⟩;exact gE.bot _ _
theorem ez.rd {w:World}(h:ez C g st a w hs)(x:Operand): gE (dc C g st w) (a.eval x) (st.rd x) []:=by cases x with|tmp t=>exact h.am0 t|const v=>exact agK _ v|func f=>exact⟨_,rfl,[],[],rfl,⟨rfl,rfl⟩,rfl⟩|global gl=>exact gE.bot _ _
theorem gq {d:Nat}{v:AV}:(st.put (some d) v).slots=st.slots.set d v:=by simp[AS.put,fP]
theorem kH {v:AV}:(st.put d v).boxes=st.boxes:=by cases d<;>rfl
theorem HT {v:AV}:(st.put d v).ep=st.ep:=by cases d<;>rfl
theorem Rt {v:AV}:(st.put d v).iss=st.iss:=by cases d<;>rfl
theorem GY {v:AV}:mM (st.put d v)=mM st:=by funext t;simp[mM,Rt]
theorem Iz {v:AV}:jq (st.put d v)=jq st:=by funext s;simp[jq,kH]
theorem Hy {d:Nat}(i:Nat):(a.put (some d) v).tmps.getD i undef=if i=d/\d<a.tmps.size then v else a.tmps.getD i undef:=by simp only[Act.put,dP,Array.getElem?_setIfInBounds];by_cases h:d=i;subst h;by_cases hs:d<a.tmps.size<;>simp[hs];simp[h,cR h]
theorem Vx:(a.put d v).tmps.size=a.tmps.size:=by cases d<;>simp[Act.put]
theorem Lo:(a.put d v).defers=a.defers:=by cases d<;>rfl
end Go.Dn
