import Derived.Test.YtfbhfnniblfpbaaGreatDnRel
/- The relation between an abstract state and the model's frame and memory. -/
namespace Go.Dn
open Go.RowKit
variable {st:AS} {a:Act} {c:RC} {hs:aq (Value×AV)} {d:au Nat} {fp:dX}
inductive je where
 |slot (i:Nat)|box (s:Nat)|hand (k:Nat)|io
 deriving DecidableEq
structure Gh where
 hw:Nat->Nat
 β:Nat->Nat
 dK:Nat->Option je
 hdr:Nat->Value
variable {g:Gh}
def lL (st:AS)(t:Nat):Prop:=t%3≠2\/(nth st.iss (t/3/4096)).getD true=true
def gA (st:AS)(s:Nat):Prop:=∃cs,st.boxes[s]?=some (some cs)
structure Fr (M:Nat->Prop) (w w':World):Prop where
 os:w'.os=w.os
 tape:w'.tape=w.tape
 output:w'.output=w.output
 size:w.heap.size<=w'.heap.size
 block:∀b,b<w.heap.size->¬M b->w'.heap[b]?=w.heap[b]?
theorem Fr.refl (M:Nat->Prop)(w:World):Fr M w w:=⟨rfl,rfl,rfl,aR _,λ_ _ _=>rfl⟩
theorem Fr.trans {M M':Nat->Prop}{w w1 w2:World}(h:Fr M w w1)(k:Fr M' w1 w2)(hM:∀b,b<w.heap.size->M' b->M b):Fr M w w2:=⟨k.os.trans h.os,k.tape.trans h.tape,k.output.trans h.output,aE h.size k.size,λb hb hm=>(k.block b (gR hb h.size) (λm=>hm (hM b hb m))).trans (h.block b hb hm)⟩
theorem Fr.below {w w':World}(h:Fr (λ_=>False) w w'):Below w.heap.size w w':=⟨h.os,h.tape,h.output,h.size,λk hk=>h.block k hk (λm=>m)⟩
structure Ctx where
 A:Rg
 M:Nat->Prop
 w0:World
 ioV:List Value
 hA:∀k b o,A k b o->b<w0.heap.size/\¬M b
variable {C:Ctx}
def cy (C:Ctx)(g:Gh)(st:AS)(w:World):RC:=⟨g.hw,g.β,C.A,g.hdr,lL st,st.ep,gA st,w⟩
def XL (C:Ctx)(g:Gh)(st:AS)(a:Act)(w:World)(i:Nat)(av:AV):Prop:=
 ∃fp,fL (cy C g st w) (a.tmps.getD i undef) av fp/\fp.Nodup/\∀b∈fp,g.dK b=some (.slot i)
def ahA (C:Ctx)(g:Gh)(st:AS)(w:World)(s:Nat)(cs:aq AC):Prop:=
 ∃arr T fr fp,w.heap[g.β s]?=some (.cells arr T fr)/\qe arr fr/\bn (cy C g st w) arr.toList cs fp/\fp.Nodup/\g.β s∉fp/\
  (∀b∈fp,g.dK b=some (.box s))/\g.dK (g.β s)=some (.box s)/\g.hw (g.β s)=0
def Ln (C:Ctx)(g:Gh)(st:AS)(w:World)(k:Nat)(v:Value)(av:AV):Prop:=
 ∃fp,fL (cy C g st w) v av fp/\fp.Nodup/\∀b∈fp,g.dK b=some (.hand k)
structure dx (C:Ctx) (g:Gh) (st:AS) (a:Act) (w:World) (hs:List (Value×AV)):Prop where
 defers:a.defers=[]
 size:a.tmps.size=st.slots.length
 bsize:st.boxes.length=st.slots.length
 slots:∀i av,st.slots[i]?=some av->XL C g st a w i av
 boxes:∀s cs,st.boxes[s]?=some (some cs)->ahA C g st w s cs
 hands:∀k v av,hs[k]?=some (v,av)->Ln C g st w k v av
 fB:∀b x,g.dK b=some x->b<w.heap.size/\(C.w0.heap.size<=b\/C.M b)
 frame:Fr C.M C.w0 w
 io:∃fp,bn (cy C g st w) C.ioV st.io fp/\fp.Nodup/\∀b∈fp,g.dK b=some .io
def nv (C:Ctx)(st:AS)(a:Act)(w:World):Prop:=∃g,dx C g st a w []
theorem dx.LM {w:World}(h:dx C g st a w hs){b:Nat}{x:je}(hx:g.dK b=some x)(k:Bool)(o:Nat):¬C.A k b o:=by intro hA;have h1:=C.hA k b o hA;rcases(h.fB b x hx).2 with h2|h2;omega;exact h1.2 h2
theorem dx.step {g':Gh}{st':AS}{a':Act}{w w':World}{ux:aq (Value×AV)}(h:dx C g st a w hs)(Kp:je->Prop)(hle:(cy C g st w).Le (cy C g' st' w'))(aqm:a'.defers=[])(tw:a'.tmps.size=st'.slots.length)(aql:st'.boxes.length=st'.slots.length)(gP:Fr C.M C.w0 w')(GI:∀b x,g'.dK b=some x->b<w'.heap.size/\(C.w0.heap.size<=b\/C.M b))(me:∀b x,Kp x->g.dK b=some x->g'.dK b=some x/\w'.heap[b]?=w.heap[b]?/\g'.hw b=g.hw b)(OT:∀i av,st'.slots[i]?=some av-> (Kp (.slot i)/\st.slots[i]?=some av/\a'.tmps.getD i undef=a.tmps.getD i undef)\/XL C g' st' a' w' i av)(vo:∀s cs,st'.boxes[s]?=some (some cs)-> (Kp (.box s)/\st.boxes[s]?=some (some cs)/\g'.β s=g.β s)\/ahA C g' st' w' s cs)(aii:∀k v av,ux[k]?=some (v,av)-> (Kp (.hand k)/\hs[k]?=some (v,av))\/Ln C g' st' w' k v av)(Kb:(Kp .io/\st'.io=st.io)\/∃fp,bn (cy C g' st' w') C.ioV st'.io fp/\fp.Nodup/\∀b∈fp,g'.dK b=some .io): dx C g' st' a' w' ux:=by refine⟨aqm,tw,aql,λi av hi=>?_,λs cs hs=>?_,λk v av hk=>?_,GI,gP,?_⟩;rotate_right;rcases Kb with⟨kp,h1⟩|h1;obtain⟨fp,hr,hn,hl⟩:=h.io;refine⟨fp,?_,hn,λb hb=>(me b _ kp (hl b hb)).1⟩;rw[h1];exact hr.mono hle (λb hb=>(me b _ kp (hl b hb)).2);exact h1;rcases OT i av hi with⟨kp,h1,h2⟩|h1;obtain⟨fp,hr,hn,hl⟩:=h.slots i av h1;refine⟨fp,?_,hn,λb hb=>(me b _ kp (hl b hb)).1⟩;rw[h2];exact hr.mono hle (λb hb=>(me b _ kp (hl b hb)).2);exact h1;rcases vo s cs hs with⟨kp,h1,h2⟩|h1;obtain⟨arr,T,fr,fp,hb,qV,hr,hn,hni,hl,Hb,IQ⟩:=h.boxes s cs h1;have hk0:=me _ _ kp Hb;rw[<-h2]at hk0 hb hni IQ;exact⟨arr,T,fr,fp,hk0.2.1.trans hb,qV,hr.mono hle (λb hb=>(me b _ kp (hl b hb)).2),hn,hni,λb hb=>(me b _ kp (hl b hb)).1,hk0.1,hk0.2.2.trans IQ⟩;exact h1;rcases aii k v av hk with⟨kp,h1⟩|h1;obtain⟨fp,hr,hn,hl⟩:=h.hands k v av h1;exact⟨fp,hr.mono hle (λb hb=>(me b _ kp (hl b hb)).2),hn,λb hb=>(me b _ kp (hl b hb)).1⟩;exact h1
theorem get_eq {i:Nat}{av:AV}(h:st.slots[i]?=some av):st.get i=av:=by simp[AS.get,dB,h]
theorem fL.bot (c:RC)(v:Value):fL c v .bot []:=⟨[v],by simp[Cut],[],[],rfl,rfl,rfl⟩
theorem dx.slot {w:World}(h:dx C g st a w hs)(i:Nat): XL C g st a w i (st.get i):=by
 by_cases hi:i<st.slots.length;have:=al hi;rw[get_eq this];exact h.slots i _ this;have:st.get i=.bot:=by simp[AS.get,dB,bH (Nat.le_of_not_lt hi)]
 rw[this];exact⟨[],fL.bot _ _,by simp,by simp⟩
theorem KG {hw:Nat->Nat}{w:World}{e:CT}{v:Value}{xs:aq e.D}(h:ez hw w (.sl e) [v] xs fp):∃o n k,v=.slice o n k/\n=xs.length:=by obtain⟨u,hu,h⟩:=h;simp at hu;subst hu;rcases h with⟨⟨a,rfl⟩,rfl,_⟩|⟨b,o0,cap,arr,T,fr,fps,rfl,_⟩;exact⟨_,_,_,rfl,rfl⟩;exact⟨_,_,_,rfl,rfl⟩
theorem gM.borrow {v:Value}{x:AC}(r:gM c v x fp)(rt:au kv):gM c v (x.borrow c.ep rt) []:=by
 cases x with
 |sl fl e xs=>
  cases fl with
  |own tag=>
   simp only[AC.borrow,gM]
   have hh:=KG r.1
   refine⟨bN,aR _,hh,λ_=>ez.rep (λb o ho=> .inr ho) r.1,λr' t hp=>?_⟩
   cases rt with
   |none=>simp at hp
   |some r0=>
    cases tag with
    |none=>simp at hp
    |some t0=>
     simp at hp
     obtain⟨_,rfl⟩:=hp
     exact⟨(r.2 t0 rfl).1,(r.2 t0 rfl).2⟩
  |loc ep' pv'=>obtain⟨h1,h2⟩:=r;exact⟨rfl,h2⟩
  |arg _=>exact⟨rfl,r.2⟩
  |nest _ _ _ _ _ _=>exact⟨rfl,r.2⟩
  |part _ _ _ _=>exact⟨rfl,r.2⟩
  |fe tag i Ol=>
   obtain⟨h1,⟨k,hk,h3⟩,h4⟩:=r
   cases Ol with
   |none=>exact rfl
   |some Ol=>
   simp only[AC.borrow,gM]
   refine⟨bN,(h1 Ol rfl).1,?_,(h1 Ol rfl).2,λr' t hp=>?_⟩
   ·obtain⟨b,o0,cap,arr,T,fr,fps,rfl,_⟩:=h3
    exact⟨_,_,_,rfl,rfl⟩
   ·cases rt with
    |none=>simp at hp
    |some r0=>
     cases tag with
     |none=>simp at hp
     |some t0=>
      simp at hp
      obtain⟨_,rfl⟩:=hp
      exact h4 t0 rfl
 |int k n=>exact⟨r.1,rfl⟩
 |bool b=>exact⟨r.1,rfl⟩
 |str s=>exact⟨r.1,rfl⟩
 |jB=>exact⟨r.1,rfl⟩
 |ptr s off=>exact⟨r.1,r.2.1,rfl⟩
 |fn f=>exact⟨r.1,rfl⟩
 |un=>exact⟨r.1,rfl⟩
 |bot=>exact rfl
 |Da fl e y i off=>
  cases fl with
  |own tag=>exact r
  |loc ep' pv'=>exact⟨rfl,r.2⟩
  |arg _=>exact⟨rfl,r.2⟩
  |nest _ _ _ _ _ _=>exact r.elim
  |part _ _ _ _=>exact r.elim
  |fe _ _ _=>exact r.elim
theorem bn.aS:∀{vs:ie}{xs:aq AC}{fp:dX},bn c vs xs fp->bn c vs (aS c.ep xs) []
 |[],[],_,_=>rfl
 |_::_,_::_,_,r=>by obtain⟨f1,f2,rfl,r1,r2⟩:=r;exact⟨[],[],rfl,r1.borrow none,bn.aS r2⟩
 |[],_::_,_,r=>r.elim
 |_::_,[],_,r=>r.elim
theorem gM.Z9 {v:Value}{x:AC}(r:gM c v (x.borrow c.ep none) []):gM c v (x.borrow 0 none) []:=by
 cases x with
 |sl fl e xs=>cases fl with|own tag=>simp only[AC.borrow,gM]at r⊢;exact⟨bN,dR _,r.2.2.1,λ_=>r.2.2.2.1 trivial,λ_ _ hp=>nomatch hp⟩|fe tag i ep=>cases ep<;>exact r|loc ep pv=>exact r|arg _=>exact r|nest _ _ _ _ _ _=>exact r|part _ _ _ _=>exact r
 |int _ _=>exact r
 |bool _=>exact r
 |str _=>exact r
 |jB=>exact r
 |ptr _ _=>exact r
 |fn _=>exact r
 |un=>exact r
 |bot=>exact r
 |Da _ _ _ _ _=>exact r
theorem bn.Z9:∀{vs:ie}{xs:aq AC}{fp:dX},bn c vs xs fp->bn c vs (Dn.aS 0 xs) []
 |[],[],_,_=>rfl
 |_::_,_::_,_,r=>by obtain⟨f1,f2,rfl,r1,r2⟩:=r;exact⟨[],[],rfl,(r1.borrow none).Z9,bn.Z9 r2⟩
 |[],_::_,_,r=>r.elim
 |_::_,[],_,r=>r.elim
theorem bn.borrow (f:Nat->kv):∀{vs:ie}{xs:aq AC}{fp:dX}(j:Nat),bn c vs xs fp->bn c vs (iz c.ep f j xs) []
 |[],[],_,_,_=>rfl
 |_::_,_::_,_,j,r=>by obtain⟨f1,f2,rfl,r1,r2⟩:=r;exact⟨[],[],rfl,r1.borrow _,bn.borrow f (j+1) r2⟩
 |[],_::_,_,_,r=>r.elim
 |_::_,[],_,_,r=>r.elim
theorem qM.aS:∀{vs:ie}{xs:aq (Bool×aq AC)}{fp:dX},fL.qM c vs xs fp->fL.qM c vs (xs.map λx=>(x.1,Dn.aS c.ep x.2)) []
 |[],[],_,_=>rfl
 |_::_,_::_,_,r=>by obtain⟨f1,f2,rfl,⟨vs,hv,r1⟩,r2⟩:=r;exact⟨[],[],rfl,⟨vs,hv,r1.aS⟩,qM.aS r2⟩
 |[],_::_,_,r=>r.elim
 |_::_,[],_,r=>r.elim
theorem fL.aS {v:Value}{x:AV}(r:fL c v x fp):fL c v (x.aS c.ep) []:=by
 cases x with
 |val g cs=>obtain⟨vs,hv,r⟩:=r;exact⟨vs,hv,r.aS⟩
 |vU ts=>obtain⟨ws,hv,r⟩:=r;exact⟨ws,hv,qM.aS r⟩
theorem dx.aiK {w:World}(h:dx C g st a w hs)(t:Nat): fL (cy C g st w) (a.tmps.getD t undef) ((st.get t).borrow st.ep (.slot t)) []:=by obtain⟨fp,hr,_,_⟩:=h.slot t;cases hg:st.get t with|vU ts=>rw[hg]at hr;exact hr.aS|val gg cs=>rw[hg]at hr;obtain⟨vs,hv,hr⟩:=hr;exact⟨vs,hv,bn.borrow (c:=cy C g st w) (.slot t) 0 hr⟩
theorem agl (c:RC)(v:Value):fL c v (ofConst v) []:=by unfold ofConst;split;exact⟨_,rfl,[],[],rfl,⟨rfl,rfl⟩,rfl⟩;exact⟨_,rfl,[],[],rfl,⟨rfl,rfl⟩,rfl⟩;exact⟨_,rfl,[],[],rfl,⟨by simp,rfl⟩,rfl⟩;exact⟨_,rfl,[],[],rfl,⟨rfl,rfl⟩,rfl⟩;exact fL.bot _ _
theorem dx.rd {w:World}(h:dx C g st a w hs)(x:Operand): fL (cy C g st w) (a.eval x) (st.rd x) []:=by cases x with|tmp t=>exact h.aiK t|const v=>exact agl _ v|func f=>exact⟨_,rfl,[],[],rfl,⟨rfl,rfl⟩,rfl⟩|global gl=>exact fL.bot _ _
theorem fK {d:Nat}{v:AV}:(st.put (some d) v).slots=st.slots.set d v:=by simp[AS.put,eV]
theorem kR {v:AV}:(st.put d v).boxes=st.boxes:=by cases d<;>rfl
theorem Lv {v:AV}:(st.put d v).ep=st.ep:=by cases d<;>rfl
theorem TL {v:AV}:(st.put d v).iss=st.iss:=by cases d<;>rfl
theorem KA {v:AV}:lL (st.put d v)=lL st:=by funext t;simp[lL,TL]
theorem L6 {v:AV}:gA (st.put d v)=gA st:=by funext s;simp[gA,kR]
theorem La {d:Nat}{v:Value}(i:Nat):(a.put (some d) v).tmps.getD i undef=if i=d/\d<a.tmps.size then v else a.tmps.getD i undef:=by simp only[Act.put,cK,Array.getElem?_setIfInBounds];by_cases h:d=i;subst h;by_cases hs:d<a.tmps.size<;>simp[hs];simp[h,cJ h]
theorem WO {v:Value}:(a.put d v).tmps.size=a.tmps.size:=by cases d<;>simp[Act.put]
theorem Og {v:Value}:(a.put d v).defers=a.defers:=by cases d<;>rfl
end Go.Dn
