import Derived.Test.YtnmppgnbjfdffaaGreatDnRel
/- The relation between an abstract state and the model's frame and memory. -/
namespace Go.Dn
open Go.RowKit
variable {st:AS} {a:Act} {c:RC} {v:Value} {hs:aw (Value×AV)} {d:ay Nat} {fp:ff}
inductive jy where
 |slot (i:Nat)|box (s:Nat)|hand (k:Nat)|io
 deriving DecidableEq
structure Gh where
 hw:Nat->Nat
 β:Nat->Nat
 dX:Nat->Option jy
 hdr:Nat->Value
variable {g:Gh}
def lJ (st:AS)(t:Nat):Prop:=t%3≠2\/(nth st.iss (t/3/4096)).getD true=true
def iQ (st:AS)(s:Nat):Prop:=∃cs,st.boxes[s]?=some (some cs)
structure Fr (M:Nat->Prop) (w w':World):Prop where
 os:w'.os=w.os
 tape:w'.tape=w.tape
 output:w'.output=w.output
 size:w.heap.size<=w'.heap.size
 block:∀b,b<w.heap.size->¬M b->w'.heap[b]?=w.heap[b]?
theorem Fr.refl (M:Nat->Prop)(w:World):Fr M w w:=⟨rfl,rfl,rfl,aS _,λ_ _ _=>rfl⟩
theorem Fr.trans {M M':Nat->Prop}{w w1 w2:World}(h:Fr M w w1)(k:Fr M' w1 w2)(hM:∀b,b<w.heap.size->M' b->M b):Fr M w w2:=⟨k.os.trans h.os,k.tape.trans h.tape,k.output.trans h.output,bk h.size k.size,λb hb hm=>(k.block b (Nat.lt_of_lt_of_le hb h.size) (λm=>hm (hM b hb m))).trans (h.block b hb hm)⟩
theorem Fr.below {w w':World}(h:Fr (λ_=>False) w w'):Below w.heap.size w w':=⟨h.os,h.tape,h.output,h.size,λk hk=>h.block k hk (λm=>m)⟩
structure Ctx where
 A:Rg
 M:Nat->Prop
 w0:World
 ioV:List Value
 hA:∀k b o,A k b o->b<w0.heap.size/\¬M b
variable {C:Ctx}
def cH (C:Ctx)(g:Gh)(st:AS)(w:World):RC:=⟨g.hw,g.β,C.A,g.hdr,lJ st,st.ep,iQ st,w⟩
def SH (C:Ctx)(g:Gh)(st:AS)(a:Act)(w:World)(i:Nat)(av:AV):Prop:=
 ∃fp,fP (cH C g st w) (a.tmps.getD i undef) av fp/\fp.Nodup/\∀b∈fp,g.dX b=some (.slot i)
def ad4 (C:Ctx)(g:Gh)(st:AS)(w:World)(s:Nat)(cs:aw AC):Prop:=
 ∃arr T fr fp,w.heap[g.β s]?=some (.cells arr T fr)/\oo arr fr/\bA (cH C g st w) arr.toList cs fp/\fp.Nodup/\g.β s∉fp/\
  (∀b∈fp,g.dX b=some (.box s))/\g.dX (g.β s)=some (.box s)/\g.hw (g.β s)=0
def F7 (C:Ctx)(g:Gh)(st:AS)(w:World)(k:Nat)(v:Value)(av:AV):Prop:=
 ∃fp,fP (cH C g st w) v av fp/\fp.Nodup/\∀b∈fp,g.dX b=some (.hand k)
structure dH (C:Ctx) (g:Gh) (st:AS) (a:Act) (w:World) (hs:List (Value×AV)):Prop where
 defers:a.defers=[]
 size:a.tmps.size=st.slots.length
 bsize:st.boxes.length=st.slots.length
 slots:∀i av,st.slots[i]?=some av->SH C g st a w i av
 boxes:∀s cs,st.boxes[s]?=some (some cs)->ad4 C g st w s cs
 hands:∀k v av,hs[k]?=some (v,av)->F7 C g st w k v av
 fQ:∀b x,g.dX b=some x->b<w.heap.size/\(C.w0.heap.size<=b\/C.M b)
 frame:Fr C.M C.w0 w
 io:∃fp,bA (cH C g st w) C.ioV st.io fp/\fp.Nodup/\∀b∈fp,g.dX b=some .io
def mP (C:Ctx)(st:AS)(a:Act)(w:World):Prop:=∃g,dH C g st a w []
theorem dH.J0 {w:World}(h:dH C g st a w hs){b:Nat}{x:jy}(hx:g.dX b=some x)(k:Bool)(o:Nat):¬C.A k b o:=by intro hA;have h1:=C.hA k b o hA;rcases(h.fQ b x hx).2 with h2|h2;omega;exact h1.2 h2
theorem dH.step {g':Gh}{bI:AS}{a':Act}{w w':World}{vZ:aw (Value×AV)}(h:dH C g st a w hs)(Kp:jy->Prop)(hle:(cH C g st w).Le (cH C g' bI w'))(alr:a'.defers=[])(sB:a'.tmps.size=bI.slots.length)(alq:bI.boxes.length=bI.slots.length)(je:Fr C.M C.w0 w')(BL:∀b x,g'.dX b=some x->b<w'.heap.size/\(C.w0.heap.size<=b\/C.M b))(qC:∀b x,Kp x->g.dX b=some x->g'.dX b=some x/\w'.heap[b]?=w.heap[b]?/\g'.hw b=g.hw b)(JL:∀i av,bI.slots[i]?=some av-> (Kp (.slot i)/\st.slots[i]?=some av/\a'.tmps.getD i undef=a.tmps.getD i undef)\/SH C g' bI a' w' i av)(rO:∀s cs,bI.boxes[s]?=some (some cs)-> (Kp (.box s)/\st.boxes[s]?=some (some cs)/\g'.β s=g.β s)\/ad4 C g' bI w' s cs)(afj:∀k v av,vZ[k]?=some (v,av)-> (Kp (.hand k)/\hs[k]?=some (v,av))\/F7 C g' bI w' k v av)(Lp:(Kp .io/\bI.io=st.io)\/∃fp,bA (cH C g' bI w') C.ioV bI.io fp/\fp.Nodup/\∀b∈fp,g'.dX b=some .io): dH C g' bI a' w' vZ:=by refine⟨alr,sB,alq,λi av hi=>?_,λs cs hs=>?_,λk v av hk=>?_,BL,je,?_⟩;rotate_right;rcases Lp with⟨kp,h1⟩|h1;obtain⟨fp,hr,hn,hl⟩:=h.io;refine⟨fp,?_,hn,λb hb=>(qC b _ kp (hl b hb)).1⟩;rw[h1];exact hr.mono hle (λb hb=>(qC b _ kp (hl b hb)).2);exact h1;rcases JL i av hi with⟨kp,h1,h2⟩|h1;obtain⟨fp,hr,hn,hl⟩:=h.slots i av h1;refine⟨fp,?_,hn,λb hb=>(qC b _ kp (hl b hb)).1⟩;rw[h2];exact hr.mono hle (λb hb=>(qC b _ kp (hl b hb)).2);exact h1;rcases rO s cs hs with⟨kp,h1,h2⟩|h1;obtain⟨arr,T,fr,fp,hb,qv,hr,hn,hni,hl,Eo,Er⟩:=h.boxes s cs h1;have hk0:=qC _ _ kp Eo;rw[<-h2]at hk0 hb hni Er;exact⟨arr,T,fr,fp,hk0.2.1.trans hb,qv,hr.mono hle (λb hb=>(qC b _ kp (hl b hb)).2),hn,hni,λb hb=>(qC b _ kp (hl b hb)).1,hk0.1,hk0.2.2.trans Er⟩;exact h1;rcases afj k v av hk with⟨kp,h1⟩|h1;obtain⟨fp,hr,hn,hl⟩:=h.hands k v av h1;exact⟨fp,hr.mono hle (λb hb=>(qC b _ kp (hl b hb)).2),hn,λb hb=>(qC b _ kp (hl b hb)).1⟩;exact h1
theorem get_eq {i:Nat}{av:AV}(h:st.slots[i]?=some av):st.get i=av:=by simp[AS.get,dF,h]
theorem fP.bot (c:RC)(v:Value):fP c v .bot []:=⟨[v],by simp[Cut],[],[],rfl,rfl,rfl⟩
theorem dH.slot {w:World}(h:dH C g st a w hs)(i:Nat): SH C g st a w i (st.get i):=by
 by_cases hi:i<st.slots.length;have:=al hi;rw[get_eq this];exact h.slots i _ this;have:st.get i=.bot:=by simp[AS.get,dF,bu (Nat.le_of_not_lt hi)]
 rw[this];exact⟨[],fP.bot _ _,by simp,by simp⟩
theorem Kh {hw:Nat->Nat}{w:World}{e:CT}{xs:aw e.D}(h:eV hw w (.sl e) [v] xs fp):∃o n k,v=.slice o n k/\n=xs.length:=by obtain⟨u,hu,h⟩:=h;simp at hu;subst hu;rcases h with⟨⟨a,rfl⟩,rfl,_⟩|⟨b,o0,cap,arr,T,fr,fps,rfl,_⟩;exact⟨_,_,_,rfl,rfl⟩;exact⟨_,_,_,rfl,rfl⟩
theorem gy.borrow {x:AC}(r:gy c v x fp)(rt:ay jU):gy c v (x.borrow c.ep rt) []:=by
 cases x with
 |sl fl e xs=>
  cases fl with
  |own tag=>
   simp only[AC.borrow,gy]
   have hh:=Kh r.1
   refine⟨cr,aS _,hh,λ_=>eV.rep (λb o ho=> .inr ho) r.1,λr' t hp=>?_⟩
   cases rt with
   |none=>simp at hp
   |some r0=>
    cases tag with
    |none=>simp at hp
    |some t0=>
     simp at hp
     obtain⟨_,rfl⟩:=hp
     exact⟨(r.2 t0 rfl).1,(r.2 t0 rfl).2⟩
  |loc ep' pv'=>obtain⟨h1,h2⟩:=r;exact⟨rfl,h2⟩
  |arg _=>exact⟨rfl,r.2⟩
  |nest _ _ _ _ _ _=>exact⟨rfl,r.2⟩
  |part _ _ _ _=>exact⟨rfl,r.2⟩
  |eX tag i Jg=>
   obtain⟨h1,⟨k,hk,h3⟩,h4⟩:=r
   cases Jg with
   |none=>exact rfl
   |some Jg=>
   simp only[AC.borrow,gy]
   refine⟨cr,(h1 Jg rfl).1,?_,(h1 Jg rfl).2,λr' t hp=>?_⟩
   ·obtain⟨b,o0,cap,arr,T,fr,fps,rfl,_⟩:=h3
    exact⟨_,_,_,rfl,rfl⟩
   ·cases rt with
    |none=>simp at hp
    |some r0=>
     cases tag with
     |none=>simp at hp
     |some t0=>
      simp at hp
      obtain⟨_,rfl⟩:=hp
      exact h4 t0 rfl
 |int k n=>exact⟨r.1,rfl⟩
 |bool b=>exact⟨r.1,rfl⟩
 |str s=>exact⟨r.1,rfl⟩
 |jm=>exact⟨r.1,rfl⟩
 |ptr s off=>exact⟨r.1,r.2.1,rfl⟩
 |fn f=>exact⟨r.1,rfl⟩
 |un=>exact⟨r.1,rfl⟩
 |bot=>exact rfl
 |yP fl e y i off=>
  cases fl with
  |own tag=>exact r
  |loc ep' pv'=>exact⟨rfl,r.2⟩
  |arg _=>exact⟨rfl,r.2⟩
  |nest _ _ _ _ _ _=>exact r.elim
  |part _ _ _ _=>exact r.elim
  |eX _ _ _=>exact r.elim
theorem bA.aQ:∀{vs:ir}{xs:aw AC}{fp:ff},bA c vs xs fp->bA c vs (aQ c.ep xs) []
 |[],[],_,_=>rfl
 |_::_,_::_,_,r=>by obtain⟨f1,f2,rfl,r1,r2⟩:=r;exact⟨[],[],rfl,r1.borrow none,bA.aQ r2⟩
 |[],_::_,_,r=>r.elim
 |_::_,[],_,r=>r.elim
theorem gy.Vo {x:AC}(r:gy c v (x.borrow c.ep none) []):gy c v (x.borrow 0 none) []:=by
 cases x with
 |sl fl e xs=>cases fl with|own tag=>simp only[AC.borrow,gy]at r⊢;exact⟨cr,bP _,r.2.2.1,λ_=>r.2.2.2.1 trivial,λ_ _ hp=>nomatch hp⟩|eX tag i ep=>cases ep<;>exact r|loc ep pv=>exact r|arg _=>exact r|nest _ _ _ _ _ _=>exact r|part _ _ _ _=>exact r
 |int _ _=>exact r
 |bool _=>exact r
 |str _=>exact r
 |jm=>exact r
 |ptr _ _=>exact r
 |fn _=>exact r
 |un=>exact r
 |bot=>exact r
 |yP _ _ _ _ _=>exact r
theorem bA.Vo:∀{vs:ir}{xs:aw AC}{fp:ff},bA c vs xs fp->bA c vs (Dn.aQ 0 xs) []
 |[],[],_,_=>rfl
 |_::_,_::_,_,r=>by obtain⟨f1,f2,rfl,r1,r2⟩:=r;exact⟨[],[],rfl,(r1.borrow none).Vo,bA.Vo r2⟩
 |[],_::_,_,r=>r.elim
 |_::_,[],_,r=>r.elim
theorem bA.borrow (f:Nat->jU):∀{vs:ir}{xs:aw AC}{fp:ff}(j:Nat),bA c vs xs fp->bA c vs (ic c.ep f j xs) []
 |[],[],_,_,_=>rfl
 |_::_,_::_,_,j,r=>by obtain⟨f1,f2,rfl,r1,r2⟩:=r;exact⟨[],[],rfl,r1.borrow _,bA.borrow f (j+1) r2⟩
 |[],_::_,_,_,r=>r.elim
 |_::_,[],_,_,r=>r.elim
theorem oQ.aQ:∀{vs:ir}{xs:aw (Bool×aw AC)}{fp:ff},fP.oQ c vs xs fp->fP.oQ c vs (xs.map λx=>(x.1,Dn.aQ c.ep x.2)) []
 |[],[],_,_=>rfl
 |_::_,_::_,_,r=>by obtain⟨f1,f2,rfl,⟨vs,hv,r1⟩,r2⟩:=r;exact⟨[],[],rfl,⟨vs,hv,r1.aQ⟩,oQ.aQ r2⟩
 |[],_::_,_,r=>r.elim
 |_::_,[],_,r=>r.elim
theorem fP.aQ {x:AV}(r:fP c v x fp):fP c v (x.aQ c.ep) []:=by
 cases x with
 |val g cs=>obtain⟨vs,hv,r⟩:=r;exact⟨vs,hv,r.aQ⟩
 |tS ts=>obtain⟨ws,hv,r⟩:=r;exact⟨ws,hv,oQ.aQ r⟩
theorem dH.agj {w:World}(h:dH C g st a w hs)(t:Nat): fP (cH C g st w) (a.tmps.getD t undef) ((st.get t).borrow st.ep (.slot t)) []:=by obtain⟨fp,hr,_,_⟩:=h.slot t;cases hg:st.get t with|tS ts=>rw[hg]at hr;exact hr.aQ|val gg cs=>rw[hg]at hr;obtain⟨vs,hv,hr⟩:=hr;exact⟨vs,hv,bA.borrow (c:=cH C g st w) (.slot t) 0 hr⟩
theorem acR (c:RC)(v:Value):fP c v (ofConst v) []:=by unfold ofConst;split;exact⟨_,rfl,[],[],rfl,⟨rfl,rfl⟩,rfl⟩;exact⟨_,rfl,[],[],rfl,⟨rfl,rfl⟩,rfl⟩;exact⟨_,rfl,[],[],rfl,⟨by simp,rfl⟩,rfl⟩;exact⟨_,rfl,[],[],rfl,⟨rfl,rfl⟩,rfl⟩;exact fP.bot _ _
theorem dH.rd {w:World}(h:dH C g st a w hs)(x:Operand): fP (cH C g st w) (a.eval x) (st.rd x) []:=by cases x with|tmp t=>exact h.agj t|const v=>exact acR _ v|func f=>exact⟨_,rfl,[],[],rfl,⟨rfl,rfl⟩,rfl⟩|global gl=>exact fP.bot _ _
theorem fG {d:Nat}{v:AV}:(st.put (some d) v).slots=st.slots.set d v:=by simp[AS.put,fb]
theorem jV {v:AV}:(st.put d v).boxes=st.boxes:=by cases d<;>rfl
theorem Gi {v:AV}:(st.put d v).ep=st.ep:=by cases d<;>rfl
theorem Oz {v:AV}:(st.put d v).iss=st.iss:=by cases d<;>rfl
theorem Fl {v:AV}:lJ (st.put d v)=lJ st:=by funext t;simp[lJ,Oz]
theorem GR {v:AV}:iQ (st.put d v)=iQ st:=by funext s;simp[iQ,jV]
theorem FY {d:Nat}(i:Nat):(a.put (some d) v).tmps.getD i undef=if i=d/\d<a.tmps.size then v else a.tmps.getD i undef:=by simp only[Act.put,du,Array.getElem?_setIfInBounds];by_cases h:d=i;subst h;by_cases hs:d<a.tmps.size<;>simp[hs];simp[h,cL h]
theorem R2:(a.put d v).tmps.size=a.tmps.size:=by cases d<;>simp[Act.put]
theorem Jc:(a.put d v).defers=a.defers:=by cases d<;>rfl
end Go.Dn
