import Derived.Test.YtfbhfnniblfpbaaGreatDnRel
/- The relation between an abstract state and the model's frame and memory. -/
namespace Go.Dn
open Go.RowKit
variable {st:AS} {a:Act} {c:RC} {hs:ax (Value×AV)} {d:aA Nat} {fp:fi}
inductive kX where
 |slot (i:Nat)|box (s:Nat)|hand (k:Nat)|io
 deriving DecidableEq
structure Gh where
 hw:Nat->Nat
 β:Nat->Nat
 fK:Nat->Option kX
 hdr:Nat->Value
variable {g:Gh}
def oL (st:AS)(t:Nat):Prop:=t%3≠2\/(nth st.iss (t/3/4096)).getD true=true
def kD (st:AS)(s:Nat):Prop:=∃cs,st.boxes[s]?=some (some cs)
structure Fr (M:Nat->Prop) (w w':World):Prop where
 os:w'.os=w.os
 tape:w'.tape=w.tape
 output:w'.output=w.output
 size:w.heap.size<=w'.heap.size
 block:∀b,b<w.heap.size->¬M b->w'.heap[b]?=w.heap[b]?
theorem Fr.refl (M:Nat->Prop)(w:World):Fr M w w:=⟨rfl,rfl,rfl,bc _,λ_ _ _=>rfl⟩
theorem Fr.trans {M M':Nat->Prop}{w w1 w2:World}(h:Fr M w w1)(k:Fr M' w1 w2)(hM:∀b,b<w.heap.size->M' b->M b):Fr M w w2:=⟨k.os.trans h.os,k.tape.trans h.tape,k.output.trans h.output,bF h.size k.size,λb hb hm=>(k.block b (Nat.lt_of_lt_of_le hb h.size) (λm=>hm (hM b hb m))).trans (h.block b hb hm)⟩
theorem Fr.below {w w':World}(h:Fr (λ_=>False) w w'):Below w.heap.size w w':=⟨h.os,h.tape,h.output,h.size,λk hk=>h.block k hk (λm=>m)⟩
structure Ctx where
 A:Rg
 M:Nat->Prop
 w0:World
 ioV:List Value
 hA:∀k b o,A k b o->b<w0.heap.size/\¬M b
variable {C:Ctx}
def dy (C:Ctx)(g:Gh)(st:AS)(w:World):RC:=⟨g.hw,g.β,C.A,g.hdr,oL st,st.ep,kD st,w⟩
def aad (C:Ctx)(g:Gh)(st:AS)(a:Act)(w:World)(i:Nat)(av:AV):Prop:=
 ∃fp,gV (dy C g st w) (a.tmps.getD i undef) av fp/\fp.Nodup/\∀b∈fp,g.fK b=some (.slot i)
def akJ (C:Ctx)(g:Gh)(st:AS)(w:World)(s:Nat)(cs:ax AC):Prop:=
 ∃arr T fr fp,w.heap[g.β s]?=some (.cells arr T fr)/\sE arr fr/\bW (dy C g st w) arr.toList cs fp/\fp.Nodup/\g.β s∉fp/\
  (∀b∈fp,g.fK b=some (.box s))/\g.fK (g.β s)=some (.box s)/\g.hw (g.β s)=0
def MH (C:Ctx)(g:Gh)(st:AS)(w:World)(k:Nat)(v:Value)(av:AV):Prop:=
 ∃fp,gV (dy C g st w) v av fp/\fp.Nodup/\∀b∈fp,g.fK b=some (.hand k)
structure eZ (C:Ctx) (g:Gh) (st:AS) (a:Act) (w:World) (hs:List (Value×AV)):Prop where
 defers:a.defers=[]
 size:a.tmps.size=st.slots.length
 bsize:st.boxes.length=st.slots.length
 slots:∀i av,st.slots[i]?=some av->aad C g st a w i av
 boxes:∀s cs,st.boxes[s]?=some (some cs)->akJ C g st w s cs
 hands:∀k v av,hs[k]?=some (v,av)->MH C g st w k v av
 ir:∀b x,g.fK b=some x->b<w.heap.size/\(C.w0.heap.size<=b\/C.M b)
 frame:Fr C.M C.w0 w
 io:∃fp,bW (dy C g st w) C.ioV st.io fp/\fp.Nodup/\∀b∈fp,g.fK b=some .io
def qo (C:Ctx)(st:AS)(a:Act)(w:World):Prop:=∃g,eZ C g st a w []
theorem eZ.Rf {w:World}(h:eZ C g st a w hs){b:Nat}{x:kX}(hx:g.fK b=some x)(k:Bool)(o:Nat):¬C.A k b o:=by intro hA;have h1:=C.hA k b o hA;rcases(h.ir b x hx).2 with h2|h2;omega;exact h1.2 h2
theorem eZ.step {g':Gh}{cp:AS}{a':Act}{w w':World}{wu:ax (Value×AV)}(h:eZ C g st a w hs)(Kp:kX->Prop)(hle:(dy C g st w).Le (dy C g' cp w'))(asz:a'.defers=[])(wv:a'.tmps.size=cp.slots.length)(asy:cp.boxes.length=cp.slots.length)(km:Fr C.M C.w0 w')(Hj:∀b x,g'.fK b=some x->b<w'.heap.size/\(C.w0.heap.size<=b\/C.M b))(vE:∀b x,Kp x->g.fK b=some x->g'.fK b=some x/\w'.heap[b]?=w.heap[b]?/\g'.hw b=g.hw b)(QZ:∀i av,cp.slots[i]?=some av-> (Kp (.slot i)/\st.slots[i]?=some av/\a'.tmps.getD i undef=a.tmps.getD i undef)\/aad C g' cp a' w' i av)(xe:∀s cs,cp.boxes[s]?=some (some cs)-> (Kp (.box s)/\st.boxes[s]?=some (some cs)/\g'.β s=g.β s)\/akJ C g' cp w' s cs)(alw:∀k v av,wu[k]?=some (v,av)-> (Kp (.hand k)/\hs[k]?=some (v,av))\/MH C g' cp w' k v av)(QP:(Kp .io/\cp.io=st.io)\/∃fp,bW (dy C g' cp w') C.ioV cp.io fp/\fp.Nodup/\∀b∈fp,g'.fK b=some .io): eZ C g' cp a' w' wu:=by refine⟨asz,wv,asy,λi av hi=>?_,λs cs hs=>?_,λk v av hk=>?_,Hj,km,?_⟩;rotate_right;rcases QP with⟨kp,h1⟩|h1;obtain⟨fp,hr,hn,hl⟩:=h.io;refine⟨fp,?_,hn,λb hb=>(vE b _ kp (hl b hb)).1⟩;rw[h1];exact hr.mono hle (λb hb=>(vE b _ kp (hl b hb)).2);exact h1;rcases QZ i av hi with⟨kp,h1,h2⟩|h1;obtain⟨fp,hr,hn,hl⟩:=h.slots i av h1;refine⟨fp,?_,hn,λb hb=>(vE b _ kp (hl b hb)).1⟩;rw[h2];exact hr.mono hle (λb hb=>(vE b _ kp (hl b hb)).2);exact h1;rcases xe s cs hs with⟨kp,h1,h2⟩|h1;obtain⟨arr,T,fr,fp,hb,vx,hr,hn,hni,hl,KI,KK⟩:=h.boxes s cs h1;have hk0:=vE _ _ kp KI;rw[<-h2]at hk0 hb hni KK;exact⟨arr,T,fr,fp,hk0.2.1.trans hb,vx,hr.mono hle (λb hb=>(vE b _ kp (hl b hb)).2),hn,hni,λb hb=>(vE b _ kp (hl b hb)).1,hk0.1,hk0.2.2.trans KK⟩;exact h1;rcases alw k v av hk with⟨kp,h1⟩|h1;obtain⟨fp,hr,hn,hl⟩:=h.hands k v av h1;exact⟨fp,hr.mono hle (λb hb=>(vE b _ kp (hl b hb)).2),hn,λb hb=>(vE b _ kp (hl b hb)).1⟩;exact h1
theorem get_eq {i:Nat}{av:AV}(h:st.slots[i]?=some av):st.get i=av:=by simp[AS.get,eV,h]
theorem gV.bot (c:RC)(v:Value):gV c v .bot []:=⟨[v],by simp[Cut],[],[],rfl,rfl,rfl⟩
theorem eZ.slot {w:World}(h:eZ C g st a w hs)(i:Nat): aad C g st a w i (st.get i):=by
 by_cases hi:i<st.slots.length;have:=ay hi;rw[get_eq this];exact h.slots i _ this;have:st.get i=.bot:=by simp[AS.get,eV,cd (Nat.le_of_not_lt hi)]
 rw[this];exact⟨[],gV.bot _ _,by simp,by simp⟩
theorem LI {hw:Nat->Nat}{w:World}{e:CT}{v:Value}{xs:ax e.D}(h:fZ hw w (.sl e) [v] xs fp):∃o n k,v=.slice o n k/\n=xs.length:=by obtain⟨u,hu,h⟩:=h;simp at hu;subst hu;rcases h with⟨⟨a,rfl⟩,rfl,_⟩|⟨b,o0,cap,arr,T,fr,fps,rfl,_⟩;exact⟨_,_,_,rfl,rfl⟩;exact⟨_,_,_,rfl,rfl⟩
theorem je.borrow {v:Value}{x:AC}(r:je c v x fp)(rt:aA mw):je c v (x.borrow c.ep rt) []:=by
 cases x with
 |sl fl e xs=>
  cases fl with
  |own tag=>
   simp only[AC.borrow,je]
   have hh:=LI r.1
   refine⟨dx,bc _,hh,λ_=>fZ.rep (λb o ho=> .inr ho) r.1,λr' t hp=>?_⟩
   cases rt with
   |none=>simp at hp
   |some r0=>
    cases tag with
    |none=>simp at hp
    |some t0=>
     simp at hp
     obtain⟨_,rfl⟩:=hp
     exact⟨(r.2 t0 rfl).1,(r.2 t0 rfl).2⟩
  |loc ep' pv'=>obtain⟨h1,h2⟩:=r;exact⟨rfl,h2⟩
  |arg _=>exact⟨rfl,r.2⟩
  |nest _ _ _ _ _ _=>exact⟨rfl,r.2⟩
  |part _ _ _ _=>exact⟨rfl,r.2⟩
  |gr tag i Qq=>
   obtain⟨h1,⟨k,hk,h3⟩,h4⟩:=r
   cases Qq with
   |none=>exact rfl
   |some Qq=>
   simp only[AC.borrow,je]
   refine⟨dx,(h1 Qq rfl).1,?_,(h1 Qq rfl).2,λr' t hp=>?_⟩
   ·obtain⟨b,o0,cap,arr,T,fr,fps,rfl,_⟩:=h3
    exact⟨_,_,_,rfl,rfl⟩
   ·cases rt with
    |none=>simp at hp
    |some r0=>
     cases tag with
     |none=>simp at hp
     |some t0=>
      simp at hp
      obtain⟨_,rfl⟩:=hp
      exact h4 t0 rfl
 |int k n=>exact⟨r.1,rfl⟩
 |bool b=>exact⟨r.1,rfl⟩
 |str s=>exact⟨r.1,rfl⟩
 |kS=>exact⟨r.1,rfl⟩
 |ptr s off=>exact⟨r.1,r.2.1,rfl⟩
 |fn f=>exact⟨r.1,rfl⟩
 |un=>exact⟨r.1,rfl⟩
 |bot=>exact rfl
 |Ef fl e y i off=>
  cases fl with
  |own tag=>exact r
  |loc ep' pv'=>exact⟨rfl,r.2⟩
  |arg _=>exact⟨rfl,r.2⟩
  |nest _ _ _ _ _ _=>exact r.elim
  |part _ _ _ _=>exact r.elim
  |gr _ _ _=>exact r.elim
theorem bW.bh:∀{vs:jI}{xs:ax AC}{fp:fi},bW c vs xs fp->bW c vs (bh c.ep xs) []
 |[],[],_,_=>rfl
 |_::_,_::_,_,r=>by obtain⟨f1,f2,rfl,r1,r2⟩:=r;exact⟨[],[],rfl,r1.borrow none,bW.bh r2⟩
 |[],_::_,_,r=>r.elim
 |_::_,[],_,r=>r.elim
theorem je.acJ {v:Value}{x:AC}(r:je c v (x.borrow c.ep none) []):je c v (x.borrow 0 none) []:=by
 cases x with
 |sl fl e xs=>cases fl with|own tag=>simp only[AC.borrow,je]at r⊢;exact⟨dx,cU _,r.2.2.1,λ_=>r.2.2.2.1 trivial,λ_ _ hp=>nomatch hp⟩|gr tag i ep=>cases ep<;>exact r|loc ep pv=>exact r|arg _=>exact r|nest _ _ _ _ _ _=>exact r|part _ _ _ _=>exact r
 |int _ _=>exact r
 |bool _=>exact r
 |str _=>exact r
 |kS=>exact r
 |ptr _ _=>exact r
 |fn _=>exact r
 |un=>exact r
 |bot=>exact r
 |Ef _ _ _ _ _=>exact r
theorem bW.acJ:∀{vs:jI}{xs:ax AC}{fp:fi},bW c vs xs fp->bW c vs (Dn.bh 0 xs) []
 |[],[],_,_=>rfl
 |_::_,_::_,_,r=>by obtain⟨f1,f2,rfl,r1,r2⟩:=r;exact⟨[],[],rfl,(r1.borrow none).acJ,bW.acJ r2⟩
 |[],_::_,_,r=>r.elim
 |_::_,[],_,r=>r.elim
theorem bW.borrow (f:Nat->mw):∀{vs:jI}{xs:ax AC}{fp:fi}(j:Nat),bW c vs xs fp->bW c vs (jO c.ep f j xs) []
 |[],[],_,_,_=>rfl
 |_::_,_::_,_,j,r=>by obtain⟨f1,f2,rfl,r1,r2⟩:=r;exact⟨[],[],rfl,r1.borrow _,bW.borrow f (j+1) r2⟩
 |[],_::_,_,_,r=>r.elim
 |_::_,[],_,_,r=>r.elim
theorem tw.bh:∀{vs:jI}{xs:ax (Bool×ax AC)}{fp:fi},gV.tw c vs xs fp->gV.tw c vs (xs.map λx=>(x.1,Dn.bh c.ep x.2)) []
 |[],[],_,_=>rfl
 |_::_,_::_,_,r=>by obtain⟨f1,f2,rfl,⟨vs,hv,r1⟩,r2⟩:=r;exact⟨[],[],rfl,⟨vs,hv,r1.bh⟩,tw.bh r2⟩
 |[],_::_,_,r=>r.elim
 |_::_,[],_,r=>r.elim
theorem gV.bh {v:Value}{x:AV}(r:gV c v x fp):gV c v (x.bh c.ep) []:=by
 cases x with
 |val g cs=>obtain⟨vs,hv,r⟩:=r;exact⟨vs,hv,r.bh⟩
 |yY ts=>obtain⟨ws,hv,r⟩:=r;exact⟨ws,hv,tw.bh r⟩
theorem eZ.al7 {w:World}(h:eZ C g st a w hs)(t:Nat): gV (dy C g st w) (a.tmps.getD t undef) ((st.get t).borrow st.ep (.slot t)) []:=by obtain⟨fp,hr,_,_⟩:=h.slot t;cases hg:st.get t with|yY ts=>rw[hg]at hr;exact hr.bh|val gg cs=>rw[hg]at hr;obtain⟨vs,hv,hr⟩:=hr;exact⟨vs,hv,bW.borrow (c:=dy C g st w) (.slot t) 0 hr⟩
theorem ajv (c:RC)(v:Value):gV c v (ofConst v) []:=by unfold ofConst;split;exact⟨_,rfl,[],[],rfl,⟨rfl,rfl⟩,rfl⟩;exact⟨_,rfl,[],[],rfl,⟨rfl,rfl⟩,rfl⟩;exact⟨_,rfl,[],[],rfl,⟨by simp,rfl⟩,rfl⟩;exact⟨_,rfl,[],[],rfl,⟨rfl,rfl⟩,rfl⟩;exact gV.bot _ _
theorem eZ.rd {w:World}(h:eZ C g st a w hs)(x:Operand): gV (dy C g st w) (a.eval x) (st.rd x) []:=by cases x with|tmp t=>exact h.al7 t|const v=>exact ajv _ v|func f=>exact⟨_,rfl,[],[],rfl,⟨rfl,rfl⟩,rfl⟩|global gl=>exact gV.bot _ _
theorem gU {d:Nat}{v:AV}:(st.put (some d) v).slots=st.slots.set d v:=by simp[AS.put,gB]
theorem mx {v:AV}:(st.put d v).boxes=st.boxes:=by cases d<;>rfl
theorem MT {v:AV}:(st.put d v).ep=st.ep:=by cases d<;>rfl
theorem We {v:AV}:(st.put d v).iss=st.iss:=by cases d<;>rfl
theorem Lv {v:AV}:oL (st.put d v)=oL st:=by funext t;simp[oL,We]
theorem Nw {v:AV}:kD (st.put d v)=kD st:=by funext s;simp[kD,mx]
theorem Ms {d:Nat}{v:Value}(i:Nat):(a.put (some d) v).tmps.getD i undef=if i=d/\d<a.tmps.size then v else a.tmps.getD i undef:=by simp only[Act.put,dz,Array.getElem?_setIfInBounds];by_cases h:d=i;subst h;by_cases hs:d<a.tmps.size<;>simp[hs];simp[h,cE h]
theorem Zy {v:Value}:(a.put d v).tmps.size=a.tmps.size:=by cases d<;>simp[Act.put]
theorem Qk {v:Value}:(a.put d v).defers=a.defers:=by cases d<;>rfl
end Go.Dn
