import Derived.Test.YtnmppgnbjfdffaaGreatDnRel
/- The relation between an abstract state and the model's frame and memory. -/
namespace Go.Dn
open Go.RowKit
variable {st:AS} {a:Act} {c:RC} {v:Value} {hs:aw (Value×AV)} {d:ax Nat} {fp:fw}
inductive jy where
 |slot (i:Nat)|box (s:Nat)|hand (k:Nat)|io
 deriving DecidableEq
structure Gh where
 hw:Nat->Nat
 β:Nat->Nat
 ej:Nat->Option jy
 hdr:Nat->Value
variable {g:Gh}
def md (st:AS)(t:Nat):Prop:=t%3≠2\/(nth st.iss (t/3/4096)).getD true=true
def iS (st:AS)(s:Nat):Prop:=∃cs,st.boxes[s]?=some (some cs)
structure Fr (M:Nat->Prop) (w w':World):Prop where
 os:w'.os=w.os
 tape:w'.tape=w.tape
 output:w'.output=w.output
 size:w.heap.size<=w'.heap.size
 block:∀b,b<w.heap.size->¬M b->w'.heap[b]?=w.heap[b]?
theorem Fr.refl (M:Nat->Prop)(w:World):Fr M w w:=⟨rfl,rfl,rfl,aU _,λ_ _ _=>rfl⟩
theorem Fr.trans {M M':Nat->Prop}{w w1 w2:World}(h:Fr M w w1)(k:Fr M' w1 w2)(hM:∀b,b<w.heap.size->M' b->M b):Fr M w w2:=⟨k.os.trans h.os,k.tape.trans h.tape,k.output.trans h.output,bw h.size k.size,λb hb hm=>(k.block b (Nat.lt_of_lt_of_le hb h.size) (λm=>hm (hM b hb m))).trans (h.block b hb hm)⟩
theorem Fr.below {w w':World}(h:Fr (λ_=>False) w w'):Below w.heap.size w w':=⟨h.os,h.tape,h.output,h.size,λk hk=>h.block k hk (λm=>m)⟩
structure Ctx where
 A:Rg
 M:Nat->Prop
 w0:World
 ioV:List Value
 hA:∀k b o,A k b o->b<w0.heap.size/\¬M b
variable {C:Ctx}
def cH (C:Ctx)(g:Gh)(st:AS)(w:World):RC:=⟨g.hw,g.β,C.A,g.hdr,md st,st.ep,iS st,w⟩
def TO (C:Ctx)(g:Gh)(st:AS)(a:Act)(w:World)(i:Nat)(av:AV):Prop:=
 ∃fp,fR (cH C g st w) (a.tmps.getD i undef) av fp/\fp.Nodup/\∀b∈fp,g.ej b=some (.slot i)
def afE (C:Ctx)(g:Gh)(st:AS)(w:World)(s:Nat)(cs:aw AC):Prop:=
 ∃arr T fr fp,w.heap[g.β s]?=some (.cells arr T fr)/\oR arr fr/\bB (cH C g st w) arr.toList cs fp/\fp.Nodup/\g.β s∉fp/\
  (∀b∈fp,g.ej b=some (.box s))/\g.ej (g.β s)=some (.box s)/\g.hw (g.β s)=0
def GU (C:Ctx)(g:Gh)(st:AS)(w:World)(k:Nat)(v:Value)(av:AV):Prop:=
 ∃fp,fR (cH C g st w) v av fp/\fp.Nodup/\∀b∈fp,g.ej b=some (.hand k)
structure dM (C:Ctx) (g:Gh) (st:AS) (a:Act) (w:World) (hs:List (Value×AV)):Prop where
 defers:a.defers=[]
 size:a.tmps.size=st.slots.length
 bsize:st.boxes.length=st.slots.length
 slots:∀i av,st.slots[i]?=some av->TO C g st a w i av
 boxes:∀s cs,st.boxes[s]?=some (some cs)->afE C g st w s cs
 hands:∀k v av,hs[k]?=some (v,av)->GU C g st w k v av
 fS:∀b x,g.ej b=some x->b<w.heap.size/\(C.w0.heap.size<=b\/C.M b)
 frame:Fr C.M C.w0 w
 io:∃fp,bB (cH C g st w) C.ioV st.io fp/\fp.Nodup/\∀b∈fp,g.ej b=some .io
def np (C:Ctx)(st:AS)(a:Act)(w:World):Prop:=∃g,dM C g st a w []
theorem dM.KR {w:World}(h:dM C g st a w hs){b:Nat}{x:jy}(hx:g.ej b=some x)(k:Bool)(o:Nat):¬C.A k b o:=by intro hA;have h1:=C.hA k b o hA;rcases(h.fS b x hx).2 with h2|h2;omega;exact h1.2 h2
theorem dM.step {g':Gh}{bH:AS}{a':Act}{w w':World}{wO:aw (Value×AV)}(h:dM C g st a w hs)(Kp:jy->Prop)(hle:(cH C g st w).Le (cH C g' bH w'))(anc:a'.defers=[])(ti:a'.tmps.size=bH.slots.length)(anb:bH.boxes.length=bH.slots.length)(jf:Fr C.M C.w0 w')(Cw:∀b x,g'.ej b=some x->b<w'.heap.size/\(C.w0.heap.size<=b\/C.M b))(rj:∀b x,Kp x->g.ej b=some x->g'.ej b=some x/\w'.heap[b]?=w.heap[b]?/\g'.hw b=g.hw b)(KA:∀i av,bH.slots[i]?=some av-> (Kp (.slot i)/\st.slots[i]?=some av/\a'.tmps.getD i undef=a.tmps.getD i undef)\/TO C g' bH a' w' i av)(sI:∀s cs,bH.boxes[s]?=some (some cs)-> (Kp (.box s)/\st.boxes[s]?=some (some cs)/\g'.β s=g.β s)\/afE C g' bH w' s cs)(agX:∀k v av,wO[k]?=some (v,av)-> (Kp (.hand k)/\hs[k]?=some (v,av))\/GU C g' bH w' k v av)(Mm:(Kp .io/\bH.io=st.io)\/∃fp,bB (cH C g' bH w') C.ioV bH.io fp/\fp.Nodup/\∀b∈fp,g'.ej b=some .io): dM C g' bH a' w' wO:=by refine⟨anc,ti,anb,λi av hi=>?_,λs cs hs=>?_,λk v av hk=>?_,Cw,jf,?_⟩;rotate_right;rcases Mm with⟨kp,h1⟩|h1;obtain⟨fp,hr,hn,hl⟩:=h.io;refine⟨fp,?_,hn,λb hb=>(rj b _ kp (hl b hb)).1⟩;rw[h1];exact hr.mono hle (λb hb=>(rj b _ kp (hl b hb)).2);exact h1;rcases KA i av hi with⟨kp,h1,h2⟩|h1;obtain⟨fp,hr,hn,hl⟩:=h.slots i av h1;refine⟨fp,?_,hn,λb hb=>(rj b _ kp (hl b hb)).1⟩;rw[h2];exact hr.mono hle (λb hb=>(rj b _ kp (hl b hb)).2);exact h1;rcases sI s cs hs with⟨kp,h1,h2⟩|h1;obtain⟨arr,T,fr,fp,hb,qZ,hr,hn,hni,hl,Fa,Fe⟩:=h.boxes s cs h1;have hk0:=rj _ _ kp Fa;rw[<-h2]at hk0 hb hni Fe;exact⟨arr,T,fr,fp,hk0.2.1.trans hb,qZ,hr.mono hle (λb hb=>(rj b _ kp (hl b hb)).2),hn,hni,λb hb=>(rj b _ kp (hl b hb)).1,hk0.1,hk0.2.2.trans Fe⟩;exact h1;rcases agX k v av hk with⟨kp,h1⟩|h1;obtain⟨fp,hr,hn,hl⟩:=h.hands k v av h1;exact⟨fp,hr.mono hle (λb hb=>(rj b _ kp (hl b hb)).2),hn,λb hb=>(rj b _ kp (hl b hb)).1⟩;exact h1
theorem get_eq {i:Nat}{av:AV}(h:st.slots[i]?=some av):st.get i=av:=by simp[AS.get,dJ,h]
theorem fR.bot (c:RC)(v:Value):fR c v .bot []:=⟨[v],by simp[Cut],[],[],rfl,rfl,rfl⟩
theorem dM.slot {w:World}(h:dM C g st a w hs)(i:Nat): TO C g st a w i (st.get i):=by
 by_cases hi:i<st.slots.length;have:=al hi;rw[get_eq this];exact h.slots i _ this;have:st.get i=.bot:=by simp[AS.get,dJ,bh (Nat.le_of_not_lt hi)]
 rw[this];exact⟨[],fR.bot _ _,by simp,by simp⟩
theorem K9 {hw:Nat->Nat}{w:World}{e:CT}{xs:aw e.D}(h:ff hw w (.sl e) [v] xs fp):∃o n k,v=.slice o n k/\n=xs.length:=by obtain⟨u,hu,h⟩:=h;simp at hu;subst hu;rcases h with⟨⟨a,rfl⟩,rfl,_⟩|⟨b,o0,cap,arr,T,fr,fps,rfl,_⟩;exact⟨_,_,_,rfl,rfl⟩;exact⟨_,_,_,rfl,rfl⟩
theorem gA.borrow {x:AC}(r:gA c v x fp)(rt:ax ka):gA c v (x.borrow c.ep rt) []:=by
 cases x with
 |sl fl e xs=>
  cases fl with
  |own tag=>
   simp only[AC.borrow,gA]
   have hh:=K9 r.1
   refine⟨cv,aU _,hh,λ_=>ff.rep (λb o ho=> .inr ho) r.1,λr' t hp=>?_⟩
   cases rt with
   |none=>simp at hp
   |some r0=>
    cases tag with
    |none=>simp at hp
    |some t0=>
     simp at hp
     obtain⟨_,rfl⟩:=hp
     exact⟨(r.2 t0 rfl).1,(r.2 t0 rfl).2⟩
  |loc ep' pv'=>obtain⟨h1,h2⟩:=r;exact⟨rfl,h2⟩
  |arg _=>exact⟨rfl,r.2⟩
  |nest _ _ _ _ _ _=>exact⟨rfl,r.2⟩
  |part _ _ _ _=>exact⟨rfl,r.2⟩
  |fg tag i J5=>
   obtain⟨h1,⟨k,hk,h3⟩,h4⟩:=r
   cases J5 with
   |none=>exact rfl
   |some J5=>
   simp only[AC.borrow,gA]
   refine⟨cv,(h1 J5 rfl).1,?_,(h1 J5 rfl).2,λr' t hp=>?_⟩
   ·obtain⟨b,o0,cap,arr,T,fr,fps,rfl,_⟩:=h3
    exact⟨_,_,_,rfl,rfl⟩
   ·cases rt with
    |none=>simp at hp
    |some r0=>
     cases tag with
     |none=>simp at hp
     |some t0=>
      simp at hp
      obtain⟨_,rfl⟩:=hp
      exact h4 t0 rfl
 |int k n=>exact⟨r.1,rfl⟩
 |bool b=>exact⟨r.1,rfl⟩
 |str s=>exact⟨r.1,rfl⟩
 |jm=>exact⟨r.1,rfl⟩
 |ptr s off=>exact⟨r.1,r.2.1,rfl⟩
 |fn f=>exact⟨r.1,rfl⟩
 |un=>exact⟨r.1,rfl⟩
 |bot=>exact rfl
 |zM fl e y i off=>
  cases fl with
  |own tag=>exact r
  |loc ep' pv'=>exact⟨rfl,r.2⟩
  |arg _=>exact⟨rfl,r.2⟩
  |nest _ _ _ _ _ _=>exact r.elim
  |part _ _ _ _=>exact r.elim
  |fg _ _ _=>exact r.elim
theorem bB.aR:∀{vs:iq}{xs:aw AC}{fp:fw},bB c vs xs fp->bB c vs (aR c.ep xs) []
 |[],[],_,_=>rfl
 |_::_,_::_,_,r=>by obtain⟨f1,f2,rfl,r1,r2⟩:=r;exact⟨[],[],rfl,r1.borrow none,bB.aR r2⟩
 |[],_::_,_,r=>r.elim
 |_::_,[],_,r=>r.elim
theorem gA.WH {x:AC}(r:gA c v (x.borrow c.ep none) []):gA c v (x.borrow 0 none) []:=by
 cases x with
 |sl fl e xs=>cases fl with|own tag=>simp only[AC.borrow,gA]at r⊢;exact⟨cv,bW _,r.2.2.1,λ_=>r.2.2.2.1 trivial,λ_ _ hp=>nomatch hp⟩|fg tag i ep=>cases ep<;>exact r|loc ep pv=>exact r|arg _=>exact r|nest _ _ _ _ _ _=>exact r|part _ _ _ _=>exact r
 |int _ _=>exact r
 |bool _=>exact r
 |str _=>exact r
 |jm=>exact r
 |ptr _ _=>exact r
 |fn _=>exact r
 |un=>exact r
 |bot=>exact r
 |zM _ _ _ _ _=>exact r
theorem bB.WH:∀{vs:iq}{xs:aw AC}{fp:fw},bB c vs xs fp->bB c vs (Dn.aR 0 xs) []
 |[],[],_,_=>rfl
 |_::_,_::_,_,r=>by obtain⟨f1,f2,rfl,r1,r2⟩:=r;exact⟨[],[],rfl,(r1.borrow none).WH,bB.WH r2⟩
 |[],_::_,_,r=>r.elim
 |_::_,[],_,r=>r.elim
theorem bB.borrow (f:Nat->ka):∀{vs:iq}{xs:aw AC}{fp:fw}(j:Nat),bB c vs xs fp->bB c vs (ib c.ep f j xs) []
 |[],[],_,_,_=>rfl
 |_::_,_::_,_,j,r=>by obtain⟨f1,f2,rfl,r1,r2⟩:=r;exact⟨[],[],rfl,r1.borrow _,bB.borrow f (j+1) r2⟩
 |[],_::_,_,_,r=>r.elim
 |_::_,[],_,_,r=>r.elim
theorem pF.aR:∀{vs:iq}{xs:aw (Bool×aw AC)}{fp:fw},fR.pF c vs xs fp->fR.pF c vs (xs.map λx=>(x.1,Dn.aR c.ep x.2)) []
 |[],[],_,_=>rfl
 |_::_,_::_,_,r=>by obtain⟨f1,f2,rfl,⟨vs,hv,r1⟩,r2⟩:=r;exact⟨[],[],rfl,⟨vs,hv,r1.aR⟩,pF.aR r2⟩
 |[],_::_,_,r=>r.elim
 |_::_,[],_,r=>r.elim
theorem fR.aR {x:AV}(r:fR c v x fp):fR c v (x.aR c.ep) []:=by
 cases x with
 |val g cs=>obtain⟨vs,hv,r⟩:=r;exact⟨vs,hv,r.aR⟩
 |uF ts=>obtain⟨ws,hv,r⟩:=r;exact⟨ws,hv,pF.aR r⟩
theorem dM.ahZ {w:World}(h:dM C g st a w hs)(t:Nat): fR (cH C g st w) (a.tmps.getD t undef) ((st.get t).borrow st.ep (.slot t)) []:=by obtain⟨fp,hr,_,_⟩:=h.slot t;cases hg:st.get t with|uF ts=>rw[hg]at hr;exact hr.aR|val gg cs=>rw[hg]at hr;obtain⟨vs,hv,hr⟩:=hr;exact⟨vs,hv,bB.borrow (c:=cH C g st w) (.slot t) 0 hr⟩
theorem aeq (c:RC)(v:Value):fR c v (ofConst v) []:=by unfold ofConst;split;exact⟨_,rfl,[],[],rfl,⟨rfl,rfl⟩,rfl⟩;exact⟨_,rfl,[],[],rfl,⟨rfl,rfl⟩,rfl⟩;exact⟨_,rfl,[],[],rfl,⟨by simp,rfl⟩,rfl⟩;exact⟨_,rfl,[],[],rfl,⟨rfl,rfl⟩,rfl⟩;exact fR.bot _ _
theorem dM.rd {w:World}(h:dM C g st a w hs)(x:Operand): fR (cH C g st w) (a.eval x) (st.rd x) []:=by cases x with|tmp t=>exact h.ahZ t|const v=>exact aeq _ v|func f=>exact⟨_,rfl,[],[],rfl,⟨rfl,rfl⟩,rfl⟩|global gl=>exact fR.bot _ _
theorem fK {d:Nat}{v:AV}:(st.put (some d) v).slots=st.slots.set d v:=by simp[AS.put,ft]
theorem kb {v:AV}:(st.put d v).boxes=st.boxes:=by cases d<;>rfl
theorem G5 {v:AV}:(st.put d v).ep=st.ep:=by cases d<;>rfl
theorem PF {v:AV}:(st.put d v).iss=st.iss:=by cases d<;>rfl
theorem F8 {v:AV}:md (st.put d v)=md st:=by funext t;simp[md,PF]
theorem HH {v:AV}:iS (st.put d v)=iS st:=by funext s;simp[iS,kb]
theorem GK {d:Nat}(i:Nat):(a.put (some d) v).tmps.getD i undef=if i=d/\d<a.tmps.size then v else a.tmps.getD i undef:=by simp only[Act.put,du,Array.getElem?_setIfInBounds];by_cases h:d=i;subst h;by_cases hs:d<a.tmps.size<;>simp[hs];simp[h,cO h]
theorem Tb:(a.put d v).tmps.size=a.tmps.size:=by cases d<;>simp[Act.put]
theorem J1:(a.put d v).defers=a.defers:=by cases d<;>rfl
end Go.Dn
