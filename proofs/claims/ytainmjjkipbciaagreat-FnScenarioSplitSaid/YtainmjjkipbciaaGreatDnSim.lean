import Derived.Test.YtainmjjkipbciaaGreatDnRel
/- The relation between an abstract state and the model's frame and memory. -/
namespace Go.Dn
open Go.RowKit
variable {st:AS} {a:Act} {c:RC} {v:Value} {hs:aw (Value×AV)} {d:ax Nat} {fp:fg}
inductive jx where
 |slot (i:Nat)|box (s:Nat)|hand (k:Nat)|io
 deriving DecidableEq
structure Gh where
 hw:Nat->Nat
 β:Nat->Nat
 ef:Nat->Option jx
 hdr:Nat->Value
variable {g:Gh}
def lT (st:AS)(t:Nat):Prop:=t%3≠2\/(nth st.iss (t/3/4096)).getD true=true
def iR (st:AS)(s:Nat):Prop:=∃cs,st.boxes[s]?=some (some cs)
structure Fr (M:Nat->Prop) (w w':World):Prop where
 os:w'.os=w.os
 tape:w'.tape=w.tape
 output:w'.output=w.output
 size:w.heap.size<=w'.heap.size
 block:∀b,b<w.heap.size->¬M b->w'.heap[b]?=w.heap[b]?
theorem Fr.refl (M:Nat->Prop)(w:World):Fr M w w:=⟨rfl,rfl,rfl,aU _,λ_ _ _=>rfl⟩
theorem Fr.trans {M M':Nat->Prop}{w w1 w2:World}(h:Fr M w w1)(k:Fr M' w1 w2)(hM:∀b,b<w.heap.size->M' b->M b):Fr M w w2:=⟨k.os.trans h.os,k.tape.trans h.tape,k.output.trans h.output,bA h.size k.size,λb hb hm=>(k.block b (Nat.lt_of_lt_of_le hb h.size) (λm=>hm (hM b hb m))).trans (h.block b hb hm)⟩
theorem Fr.below {w w':World}(h:Fr (λ_=>False) w w'):Below w.heap.size w w':=⟨h.os,h.tape,h.output,h.size,λk hk=>h.block k hk (λm=>m)⟩
structure Ctx where
 A:Rg
 M:Nat->Prop
 w0:World
 ioV:List Value
 hA:∀k b o,A k b o->b<w0.heap.size/\¬M b
variable {C:Ctx}
def cG (C:Ctx)(g:Gh)(st:AS)(w:World):RC:=⟨g.hw,g.β,C.A,g.hdr,lT st,st.ep,iR st,w⟩
def T9 (C:Ctx)(g:Gh)(st:AS)(a:Act)(w:World)(i:Nat)(av:AV):Prop:=
 ∃fp,fR (cG C g st w) (a.tmps.getD i undef) av fp/\fp.Nodup/\∀b∈fp,g.ef b=some (.slot i)
def af0 (C:Ctx)(g:Gh)(st:AS)(w:World)(s:Nat)(cs:aw AC):Prop:=
 ∃arr T fr fp,w.heap[g.β s]?=some (.cells arr T fr)/\oF arr fr/\bE (cG C g st w) arr.toList cs fp/\fp.Nodup/\g.β s∉fp/\
  (∀b∈fp,g.ef b=some (.box s))/\g.ef (g.β s)=some (.box s)/\g.hw (g.β s)=0
def Gq (C:Ctx)(g:Gh)(st:AS)(w:World)(k:Nat)(v:Value)(av:AV):Prop:=
 ∃fp,fR (cG C g st w) v av fp/\fp.Nodup/\∀b∈fp,g.ef b=some (.hand k)
structure dP (C:Ctx) (g:Gh) (st:AS) (a:Act) (w:World) (hs:List (Value×AV)):Prop where
 defers:a.defers=[]
 size:a.tmps.size=st.slots.length
 bsize:st.boxes.length=st.slots.length
 slots:∀i av,st.slots[i]?=some av->T9 C g st a w i av
 boxes:∀s cs,st.boxes[s]?=some (some cs)->af0 C g st w s cs
 hands:∀k v av,hs[k]?=some (v,av)->Gq C g st w k v av
 fS:∀b x,g.ef b=some x->b<w.heap.size/\(C.w0.heap.size<=b\/C.M b)
 frame:Fr C.M C.w0 w
 io:∃fp,bE (cG C g st w) C.ioV st.io fp/\fp.Nodup/\∀b∈fp,g.ef b=some .io
def mZ (C:Ctx)(st:AS)(a:Act)(w:World):Prop:=∃g,dP C g st a w []
theorem dP.KI {w:World}(h:dP C g st a w hs){b:Nat}{x:jx}(hx:g.ef b=some x)(k:Bool)(o:Nat):¬C.A k b o:=by intro hA;have h1:=C.hA k b o hA;rcases(h.fS b x hx).2 with h2|h2;omega;exact h1.2 h2
theorem dP.step {g':Gh}{bK:AS}{a':Act}{w w':World}{wC:aw (Value×AV)}(h:dP C g st a w hs)(Kp:jx->Prop)(hle:(cG C g st w).Le (cG C g' bK w'))(arC:a'.defers=[])(sV:a'.tmps.size=bK.slots.length)(arB:bK.boxes.length=bK.slots.length)(jf:Fr C.M C.w0 w')(Ch:∀b x,g'.ef b=some x->b<w'.heap.size/\(C.w0.heap.size<=b\/C.M b))(qS:∀b x,Kp x->g.ef b=some x->g'.ef b=some x/\w'.heap[b]?=w.heap[b]?/\g'.hw b=g.hw b)(Kr:∀i av,bK.slots[i]?=some av-> (Kp (.slot i)/\st.slots[i]?=some av/\a'.tmps.getD i undef=a.tmps.getD i undef)\/T9 C g' bK a' w' i av)(su:∀s cs,bK.boxes[s]?=some (some cs)-> (Kp (.box s)/\st.boxes[s]?=some (some cs)/\g'.β s=g.β s)\/af0 C g' bK w' s cs)(ahO:∀k v av,wC[k]?=some (v,av)-> (Kp (.hand k)/\hs[k]?=some (v,av))\/Gq C g' bK w' k v av)(L7:(Kp .io/\bK.io=st.io)\/∃fp,bE (cG C g' bK w') C.ioV bK.io fp/\fp.Nodup/\∀b∈fp,g'.ef b=some .io): dP C g' bK a' w' wC:=by refine⟨arC,sV,arB,λi av hi=>?_,λs cs hs=>?_,λk v av hk=>?_,Ch,jf,?_⟩;rotate_right;rcases L7 with⟨kp,h1⟩|h1;obtain⟨fp,hr,hn,hl⟩:=h.io;refine⟨fp,?_,hn,λb hb=>(qS b _ kp (hl b hb)).1⟩;rw[h1];exact hr.mono hle (λb hb=>(qS b _ kp (hl b hb)).2);exact h1;rcases Kr i av hi with⟨kp,h1,h2⟩|h1;obtain⟨fp,hr,hn,hl⟩:=h.slots i av h1;refine⟨fp,?_,hn,λb hb=>(qS b _ kp (hl b hb)).1⟩;rw[h2];exact hr.mono hle (λb hb=>(qS b _ kp (hl b hb)).2);exact h1;rcases su s cs hs with⟨kp,h1,h2⟩|h1;obtain⟨arr,T,fr,fp,hb,qM,hr,hn,hni,hl,EM,EO⟩:=h.boxes s cs h1;have hk0:=qS _ _ kp EM;rw[<-h2]at hk0 hb hni EO;exact⟨arr,T,fr,fp,hk0.2.1.trans hb,qM,hr.mono hle (λb hb=>(qS b _ kp (hl b hb)).2),hn,hni,λb hb=>(qS b _ kp (hl b hb)).1,hk0.1,hk0.2.2.trans EO⟩;exact h1;rcases ahO k v av hk with⟨kp,h1⟩|h1;obtain⟨fp,hr,hn,hl⟩:=h.hands k v av h1;exact⟨fp,hr.mono hle (λb hb=>(qS b _ kp (hl b hb)).2),hn,λb hb=>(qS b _ kp (hl b hb)).1⟩;exact h1
theorem get_eq {i:Nat}{av:AV}(h:st.slots[i]?=some av):st.get i=av:=by simp[AS.get,dI,h]
theorem fR.bot (c:RC)(v:Value):fR c v .bot []:=⟨[v],by simp[Cut],[],[],rfl,rfl,rfl⟩
theorem dP.slot {w:World}(h:dP C g st a w hs)(i:Nat): T9 C g st a w i (st.get i):=by
 by_cases hi:i<st.slots.length;have:=al hi;rw[get_eq this];exact h.slots i _ this;have:st.get i=.bot:=by simp[AS.get,dI,br (Nat.le_of_not_lt hi)]
 rw[this];exact⟨[],fR.bot _ _,by simp,by simp⟩
theorem KW {hw:Nat->Nat}{w:World}{e:CT}{xs:aw e.D}(h:eZ hw w (.sl e) [v] xs fp):∃o n k,v=.slice o n k/\n=xs.length:=by obtain⟨u,hu,h⟩:=h;simp at hu;subst hu;rcases h with⟨⟨a,rfl⟩,rfl,_⟩|⟨b,o0,cap,arr,T,fr,fps,rfl,_⟩;exact⟨_,_,_,rfl,rfl⟩;exact⟨_,_,_,rfl,rfl⟩
theorem gB.borrow {x:AC}(r:gB c v x fp)(rt:ax jW):gB c v (x.borrow c.ep rt) []:=by
 cases x with
 |sl fl e xs=>
  cases fl with
  |own tag=>
   simp only[AC.borrow,gB]
   have hh:=KW r.1
   refine⟨cx,aU _,hh,λ_=>eZ.rep (λb o ho=> .inr ho) r.1,λr' t hp=>?_⟩
   cases rt with
   |none=>simp at hp
   |some r0=>
    cases tag with
    |none=>simp at hp
    |some t0=>
     simp at hp
     obtain⟨_,rfl⟩:=hp
     exact⟨(r.2 t0 rfl).1,(r.2 t0 rfl).2⟩
  |loc ep' pv'=>obtain⟨h1,h2⟩:=r;exact⟨rfl,h2⟩
  |arg _=>exact⟨rfl,r.2⟩
  |nest _ _ _ _ _ _=>exact⟨rfl,r.2⟩
  |part _ _ _ _=>exact⟨rfl,r.2⟩
  |fa tag i JT=>
   obtain⟨h1,⟨k,hk,h3⟩,h4⟩:=r
   cases JT with
   |none=>exact rfl
   |some JT=>
   simp only[AC.borrow,gB]
   refine⟨cx,(h1 JT rfl).1,?_,(h1 JT rfl).2,λr' t hp=>?_⟩
   ·obtain⟨b,o0,cap,arr,T,fr,fps,rfl,_⟩:=h3
    exact⟨_,_,_,rfl,rfl⟩
   ·cases rt with
    |none=>simp at hp
    |some r0=>
     cases tag with
     |none=>simp at hp
     |some t0=>
      simp at hp
      obtain⟨_,rfl⟩:=hp
      exact h4 t0 rfl
 |int k n=>exact⟨r.1,rfl⟩
 |bool b=>exact⟨r.1,rfl⟩
 |str s=>exact⟨r.1,rfl⟩
 |jn=>exact⟨r.1,rfl⟩
 |ptr s off=>exact⟨r.1,r.2.1,rfl⟩
 |fn f=>exact⟨r.1,rfl⟩
 |un=>exact⟨r.1,rfl⟩
 |bot=>exact rfl
 |zk fl e y i off=>
  cases fl with
  |own tag=>exact r
  |loc ep' pv'=>exact⟨rfl,r.2⟩
  |arg _=>exact⟨rfl,r.2⟩
  |nest _ _ _ _ _ _=>exact r.elim
  |part _ _ _ _=>exact r.elim
  |fa _ _ _=>exact r.elim
theorem bE.aQ:∀{vs:ir}{xs:aw AC}{fp:fg},bE c vs xs fp->bE c vs (aQ c.ep xs) []
 |[],[],_,_=>rfl
 |_::_,_::_,_,r=>by obtain⟨f1,f2,rfl,r1,r2⟩:=r;exact⟨[],[],rfl,r1.borrow none,bE.aQ r2⟩
 |[],_::_,_,r=>r.elim
 |_::_,[],_,r=>r.elim
theorem gB.Wy {x:AC}(r:gB c v (x.borrow c.ep none) []):gB c v (x.borrow 0 none) []:=by
 cases x with
 |sl fl e xs=>cases fl with|own tag=>simp only[AC.borrow,gB]at r⊢;exact⟨cx,bO _,r.2.2.1,λ_=>r.2.2.2.1 trivial,λ_ _ hp=>nomatch hp⟩|fa tag i ep=>cases ep<;>exact r|loc ep pv=>exact r|arg _=>exact r|nest _ _ _ _ _ _=>exact r|part _ _ _ _=>exact r
 |int _ _=>exact r
 |bool _=>exact r
 |str _=>exact r
 |jn=>exact r
 |ptr _ _=>exact r
 |fn _=>exact r
 |un=>exact r
 |bot=>exact r
 |zk _ _ _ _ _=>exact r
theorem bE.Wy:∀{vs:ir}{xs:aw AC}{fp:fg},bE c vs xs fp->bE c vs (Dn.aQ 0 xs) []
 |[],[],_,_=>rfl
 |_::_,_::_,_,r=>by obtain⟨f1,f2,rfl,r1,r2⟩:=r;exact⟨[],[],rfl,(r1.borrow none).Wy,bE.Wy r2⟩
 |[],_::_,_,r=>r.elim
 |_::_,[],_,r=>r.elim
theorem bE.borrow (f:Nat->jW):∀{vs:ir}{xs:aw AC}{fp:fg}(j:Nat),bE c vs xs fp->bE c vs (ic c.ep f j xs) []
 |[],[],_,_,_=>rfl
 |_::_,_::_,_,j,r=>by obtain⟨f1,f2,rfl,r1,r2⟩:=r;exact⟨[],[],rfl,r1.borrow _,bE.borrow f (j+1) r2⟩
 |[],_::_,_,_,r=>r.elim
 |_::_,[],_,_,r=>r.elim
theorem pk.aQ:∀{vs:ir}{xs:aw (Bool×aw AC)}{fp:fg},fR.pk c vs xs fp->fR.pk c vs (xs.map λx=>(x.1,Dn.aQ c.ep x.2)) []
 |[],[],_,_=>rfl
 |_::_,_::_,_,r=>by obtain⟨f1,f2,rfl,⟨vs,hv,r1⟩,r2⟩:=r;exact⟨[],[],rfl,⟨vs,hv,r1.aQ⟩,pk.aQ r2⟩
 |[],_::_,_,r=>r.elim
 |_::_,[],_,r=>r.elim
theorem fR.aQ {x:AV}(r:fR c v x fp):fR c v (x.aQ c.ep) []:=by
 cases x with
 |val g cs=>obtain⟨vs,hv,r⟩:=r;exact⟨vs,hv,r.aQ⟩
 |uw ts=>obtain⟨ws,hv,r⟩:=r;exact⟨ws,hv,pk.aQ r⟩
theorem dP.ajL {w:World}(h:dP C g st a w hs)(t:Nat): fR (cG C g st w) (a.tmps.getD t undef) ((st.get t).borrow st.ep (.slot t)) []:=by obtain⟨fp,hr,_,_⟩:=h.slot t;cases hg:st.get t with|uw ts=>rw[hg]at hr;exact hr.aQ|val gg cs=>rw[hg]at hr;obtain⟨vs,hv,hr⟩:=hr;exact⟨vs,hv,bE.borrow (c:=cG C g st w) (.slot t) 0 hr⟩
theorem aeE (c:RC)(v:Value):fR c v (ofConst v) []:=by unfold ofConst;split;exact⟨_,rfl,[],[],rfl,⟨rfl,rfl⟩,rfl⟩;exact⟨_,rfl,[],[],rfl,⟨rfl,rfl⟩,rfl⟩;exact⟨_,rfl,[],[],rfl,⟨by simp,rfl⟩,rfl⟩;exact⟨_,rfl,[],[],rfl,⟨rfl,rfl⟩,rfl⟩;exact fR.bot _ _
theorem dP.rd {w:World}(h:dP C g st a w hs)(x:Operand): fR (cG C g st w) (a.eval x) (st.rd x) []:=by cases x with|tmp t=>exact h.ajL t|const v=>exact aeE _ v|func f=>exact⟨_,rfl,[],[],rfl,⟨rfl,rfl⟩,rfl⟩|global gl=>exact fR.bot _ _
theorem fH {d:Nat}{v:AV}:(st.put (some d) v).slots=st.slots.set d v:=by simp[AS.put,fe]
theorem jX {v:AV}:(st.put d v).boxes=st.boxes:=by cases d<;>rfl
theorem GA {v:AV}:(st.put d v).ep=st.ep:=by cases d<;>rfl
theorem PM {v:AV}:(st.put d v).iss=st.iss:=by cases d<;>rfl
theorem FE {v:AV}:lT (st.put d v)=lT st:=by funext t;simp[lT,PM]
theorem G8 {v:AV}:iR (st.put d v)=iR st:=by funext s;simp[iR,jX]
theorem Ge {d:Nat}(i:Nat):(a.put (some d) v).tmps.getD i undef=if i=d/\d<a.tmps.size then v else a.tmps.getD i undef:=by simp only[Act.put,du,Array.getElem?_setIfInBounds];by_cases h:d=i;subst h;by_cases hs:d<a.tmps.size<;>simp[hs];simp[h,cM h]
theorem Tu:(a.put d v).tmps.size=a.tmps.size:=by cases d<;>simp[Act.put]
theorem JP:(a.put d v).defers=a.defers:=by cases d<;>rfl
end Go.Dn
