import Derived.Test.YthllnaiaikjelaaGreatDnRel
/- The relation between an abstract state and the model's frame and memory. -/
namespace Go.Dn
open Go.RowKit
variable {st:AS} {a:Act} {c:RC} {hs:ar (Value×AV)} {d:au Nat} {fp:ec}
inductive kb where
 |slot (i:Nat)|box (s:Nat)|hand (k:Nat)|io
 deriving DecidableEq
structure Gh where
 hw:Nat->Nat
 β:Nat->Nat
 eo:Nat->Option kb
 hdr:Nat->Value
variable {g:Gh}
def nm (st:AS)(t:Nat):Prop:=t%3≠2\/(nth st.iss (t/3/4096)).getD true=true
def ic (st:AS)(s:Nat):Prop:=∃cs,st.boxes[s]?=some (some cs)
structure Fr (M:Nat->Prop) (w w':World):Prop where
 os:w'.os=w.os
 tape:w'.tape=w.tape
 output:w'.output=w.output
 size:w.heap.size<=w'.heap.size
 block:∀b,b<w.heap.size->¬M b->w'.heap[b]?=w.heap[b]?
theorem Fr.refl (M:Nat->Prop)(w:World):Fr M w w:=⟨rfl,rfl,rfl,ba _,λ_ _ _=>rfl⟩
theorem Fr.trans {M M':Nat->Prop}{w w1 w2:World}(h:Fr M w w1)(k:Fr M' w1 w2)(hM:∀b,b<w.heap.size->M' b->M b):Fr M w w2:=⟨k.os.trans h.os,k.tape.trans h.tape,k.output.trans h.output,aF h.size k.size,λb hb hm=>(k.block b (iD hb h.size) (λm=>hm (hM b hb m))).trans (h.block b hb hm)⟩
theorem Fr.below {w w':World}(h:Fr (λ_=>False) w w'):Below w.heap.size w w':=⟨h.os,h.tape,h.output,h.size,λk hk=>h.block k hk (λm=>m)⟩
structure Ctx where
 A:Rg
 M:Nat->Prop
 w0:World
 ioV:List Value
 hA:∀k b o,A k b o->b<w0.heap.size/\¬M b
variable {C:Ctx}
def cO (C:Ctx)(g:Gh)(st:AS)(w:World):RC:=⟨g.hw,g.β,C.A,g.hdr,nm st,st.ep,ic st,w⟩
def aes (C:Ctx)(g:Gh)(st:AS)(a:Act)(w:World)(i:Nat)(av:AV):Prop:=
 ∃fp,gi (cO C g st w) (a.tmps.getD i undef) av fp/\fp.Nodup/\∀b∈fp,g.eo b=some (.slot i)
def aph (C:Ctx)(g:Gh)(st:AS)(w:World)(s:Nat)(cs:ar AC):Prop:=
 ∃arr T fr fp,w.heap[g.β s]?=some (.cells arr T fr)/\tk arr fr/\bD (cO C g st w) arr.toList cs fp/\fp.Nodup/\g.β s∉fp/\
  (∀b∈fp,g.eo b=some (.box s))/\g.eo (g.β s)=some (.box s)/\g.hw (g.β s)=0
def Q5 (C:Ctx)(g:Gh)(st:AS)(w:World)(k:Nat)(v:Value)(av:AV):Prop:=
 ∃fp,gi (cO C g st w) v av fp/\fp.Nodup/\∀b∈fp,g.eo b=some (.hand k)
structure dM (C:Ctx) (g:Gh) (st:AS) (a:Act) (w:World) (hs:List (Value×AV)):Prop where
 defers:a.defers=[]
 size:a.tmps.size=st.slots.length
 bsize:st.boxes.length=st.slots.length
 slots:∀i av,st.slots[i]?=some av->aes C g st a w i av
 boxes:∀s cs,st.boxes[s]?=some (some cs)->aph C g st w s cs
 hands:∀k v av,hs[k]?=some (v,av)->Q5 C g st w k v av
 fV:∀b x,g.eo b=some x->b<w.heap.size/\(C.w0.heap.size<=b\/C.M b)
 frame:Fr C.M C.w0 w
 io:∃fp,bD (cO C g st w) C.ioV st.io fp/\fp.Nodup/\∀b∈fp,g.eo b=some .io
def pF (C:Ctx)(st:AS)(a:Act)(w:World):Prop:=∃g,dM C g st a w []
theorem dM.RB {w:World}(h:dM C g st a w hs){b:Nat}{x:kb}(hx:g.eo b=some x)(k:Bool)(o:Nat):¬C.A k b o:=by intro hA;have h1:=C.hA k b o hA;rcases(h.fV b x hx).2 with h2|h2;omega;exact h1.2 h2
theorem dM.step {g':Gh}{st':AS}{a':Act}{w w':World}{yk:ar (Value×AV)}(h:dM C g st a w hs)(Kp:kb->Prop)(hle:(cO C g st w).Le (cO C g' st' w'))(azw:a'.defers=[])(xp:a'.tmps.size=st'.slots.length)(azv:st'.boxes.length=st'.slots.length)(iw:Fr C.M C.w0 w')(Lq:∀b x,g'.eo b=some x->b<w'.heap.size/\(C.w0.heap.size<=b\/C.M b))(nO:∀b x,Kp x->g.eo b=some x->g'.eo b=some x/\w'.heap[b]?=w.heap[b]?/\g'.hw b=g.hw b)(Vb:∀i av,st'.slots[i]?=some av-> (Kp (.slot i)/\st.slots[i]?=some av/\a'.tmps.getD i undef=a.tmps.getD i undef)\/aes C g' st' a' w' i av)(yW:∀s cs,st'.boxes[s]?=some (some cs)-> (Kp (.box s)/\st.boxes[s]?=some (some cs)/\g'.β s=g.β s)\/aph C g' st' w' s cs)(ap3:∀k v av,yk[k]?=some (v,av)-> (Kp (.hand k)/\hs[k]?=some (v,av))\/Q5 C g' st' w' k v av)(PJ:(Kp .io/\st'.io=st.io)\/∃fp,bD (cO C g' st' w') C.ioV st'.io fp/\fp.Nodup/\∀b∈fp,g'.eo b=some .io): dM C g' st' a' w' yk:=by refine⟨azw,xp,azv,λi av hi=>?_,λs cs hs=>?_,λk v av hk=>?_,Lq,iw,?_⟩;rotate_right;rcases PJ with⟨kp,h1⟩|h1;obtain⟨fp,hr,hn,hl⟩:=h.io;refine⟨fp,?_,hn,λb hb=>(nO b _ kp (hl b hb)).1⟩;rw[h1];exact hr.mono hle (λb hb=>(nO b _ kp (hl b hb)).2);exact h1;rcases Vb i av hi with⟨kp,h1,h2⟩|h1;obtain⟨fp,hr,hn,hl⟩:=h.slots i av h1;refine⟨fp,?_,hn,λb hb=>(nO b _ kp (hl b hb)).1⟩;rw[h2];exact hr.mono hle (λb hb=>(nO b _ kp (hl b hb)).2);exact h1;rcases yW s cs hs with⟨kp,h1,h2⟩|h1;obtain⟨arr,T,fr,fp,hb,uG,hr,hn,hni,hl,ND,NU⟩:=h.boxes s cs h1;have hk0:=nO _ _ kp ND;rw[<-h2]at hk0 hb hni NU;exact⟨arr,T,fr,fp,hk0.2.1.trans hb,uG,hr.mono hle (λb hb=>(nO b _ kp (hl b hb)).2),hn,hni,λb hb=>(nO b _ kp (hl b hb)).1,hk0.1,hk0.2.2.trans NU⟩;exact h1;rcases ap3 k v av hk with⟨kp,h1⟩|h1;obtain⟨fp,hr,hn,hl⟩:=h.hands k v av h1;exact⟨fp,hr.mono hle (λb hb=>(nO b _ kp (hl b hb)).2),hn,λb hb=>(nO b _ kp (hl b hb)).1⟩;exact h1
theorem get_eq {i:Nat}{av:AV}(h:st.slots[i]?=some av):st.get i=av:=by simp[AS.get,dV,h]
theorem gi.bot (c:RC)(v:Value):gi c v .bot []:=⟨[v],by simp[Cut],[],[],rfl,rfl,rfl⟩
theorem dM.slot {w:World}(h:dM C g st a w hs)(i:Nat): aes C g st a w i (st.get i):=by
 by_cases hi:i<st.slots.length;have:=al hi;rw[get_eq this];exact h.slots i _ this;have:st.get i=.bot:=by simp[AS.get,dV,bJ (Nat.le_of_not_lt hi)]
 rw[this];exact⟨[],gi.bot _ _,by simp,by simp⟩
theorem Qk {hw:Nat->Nat}{w:World}{e:CT}{v:Value}{xs:ar e.D}(h:eS hw w (.sl e) [v] xs fp):∃o n k,v=.slice o n k/\n=xs.length:=by obtain⟨u,hu,h⟩:=h;simp at hu;subst hu;rcases h with⟨⟨a,rfl⟩,rfl,_⟩|⟨b,o0,cap,arr,T,fr,fps,rfl,_⟩;exact⟨_,_,_,rfl,rfl⟩;exact⟨_,_,_,rfl,rfl⟩
theorem iA.borrow {v:Value}{x:AC}(r:iA c v x fp)(rt:au lS):iA c v (x.borrow c.ep rt) []:=by
 cases x with
 |sl fl e xs=>
  cases fl with
  |own tag=>
   simp only[AC.borrow,iA]
   have hh:=Qk r.1
   refine⟨bM,ba _,hh,λ_=>eS.rep (λb o ho=> .inr ho) r.1,λr' t hp=>?_⟩
   cases rt with
   |none=>simp at hp
   |some r0=>
    cases tag with
    |none=>simp at hp
    |some t0=>
     simp at hp
     obtain⟨_,rfl⟩:=hp
     exact⟨(r.2 t0 rfl).1,(r.2 t0 rfl).2⟩
  |loc ep' pv'=>obtain⟨h1,h2⟩:=r;exact⟨rfl,h2⟩
  |arg _=>exact⟨rfl,r.2⟩
  |nest _ _ _ _ _ _=>exact⟨rfl,r.2⟩
  |part _ _ _ _=>exact⟨rfl,r.2⟩
  |fK tag i UC=>
   obtain⟨h1,⟨k,hk,h3⟩,h4⟩:=r
   cases UC with
   |none=>exact rfl
   |some UC=>
   simp only[AC.borrow,iA]
   refine⟨bM,(h1 UC rfl).1,?_,(h1 UC rfl).2,λr' t hp=>?_⟩
   ·obtain⟨b,o0,cap,arr,T,fr,fps,rfl,_⟩:=h3
    exact⟨_,_,_,rfl,rfl⟩
   ·cases rt with
    |none=>simp at hp
    |some r0=>
     cases tag with
     |none=>simp at hp
     |some t0=>
      simp at hp
      obtain⟨_,rfl⟩:=hp
      exact h4 t0 rfl
 |int k n=>exact⟨r.1,rfl⟩
 |bool b=>exact⟨r.1,rfl⟩
 |str s=>exact⟨r.1,rfl⟩
 |kL=>exact⟨r.1,rfl⟩
 |ptr s off=>exact⟨r.1,r.2.1,rfl⟩
 |fn f=>exact⟨r.1,rfl⟩
 |un=>exact⟨r.1,rfl⟩
 |bot=>exact rfl
 |Hy fl e y i off=>
  cases fl with
  |own tag=>exact r
  |loc ep' pv'=>exact⟨rfl,r.2⟩
  |arg _=>exact⟨rfl,r.2⟩
  |nest _ _ _ _ _ _=>exact r.elim
  |part _ _ _ _=>exact r.elim
  |fK _ _ _=>exact r.elim
theorem bD.bc:∀{vs:iU}{xs:ar AC}{fp:ec},bD c vs xs fp->bD c vs (bc c.ep xs) []
 |[],[],_,_=>rfl
 |_::_,_::_,_,r=>by obtain⟨f1,f2,rfl,r1,r2⟩:=r;exact⟨[],[],rfl,r1.borrow none,bD.bc r2⟩
 |[],_::_,_,r=>r.elim
 |_::_,[],_,r=>r.elim
theorem iA.ag3 {v:Value}{x:AC}(r:iA c v (x.borrow c.ep none) []):iA c v (x.borrow 0 none) []:=by
 cases x with
 |sl fl e xs=>cases fl with|own tag=>simp only[AC.borrow,iA]at r⊢;exact⟨bM,eT _,r.2.2.1,λ_=>r.2.2.2.1 trivial,λ_ _ hp=>nomatch hp⟩|fK tag i ep=>cases ep<;>exact r|loc ep pv=>exact r|arg _=>exact r|nest _ _ _ _ _ _=>exact r|part _ _ _ _=>exact r
 |int _ _=>exact r
 |bool _=>exact r
 |str _=>exact r
 |kL=>exact r
 |ptr _ _=>exact r
 |fn _=>exact r
 |un=>exact r
 |bot=>exact r
 |Hy _ _ _ _ _=>exact r
theorem bD.ag3:∀{vs:iU}{xs:ar AC}{fp:ec},bD c vs xs fp->bD c vs (Dn.bc 0 xs) []
 |[],[],_,_=>rfl
 |_::_,_::_,_,r=>by obtain⟨f1,f2,rfl,r1,r2⟩:=r;exact⟨[],[],rfl,(r1.borrow none).ag3,bD.ag3 r2⟩
 |[],_::_,_,r=>r.elim
 |_::_,[],_,r=>r.elim
theorem bD.borrow (f:Nat->lS):∀{vs:iU}{xs:ar AC}{fp:ec}(j:Nat),bD c vs xs fp->bD c vs (jj c.ep f j xs) []
 |[],[],_,_,_=>rfl
 |_::_,_::_,_,j,r=>by obtain⟨f1,f2,rfl,r1,r2⟩:=r;exact⟨[],[],rfl,r1.borrow _,bD.borrow f (j+1) r2⟩
 |[],_::_,_,_,r=>r.elim
 |_::_,[],_,_,r=>r.elim
theorem uw.bc:∀{vs:iU}{xs:ar (Bool×ar AC)}{fp:ec},gi.uw c vs xs fp->gi.uw c vs (xs.map λx=>(x.1,Dn.bc c.ep x.2)) []
 |[],[],_,_=>rfl
 |_::_,_::_,_,r=>by obtain⟨f1,f2,rfl,⟨vs,hv,r1⟩,r2⟩:=r;exact⟨[],[],rfl,⟨vs,hv,r1.bc⟩,uw.bc r2⟩
 |[],_::_,_,r=>r.elim
 |_::_,[],_,r=>r.elim
theorem gi.bc {v:Value}{x:AV}(r:gi c v x fp):gi c v (x.bc c.ep) []:=by
 cases x with
 |val g cs=>obtain⟨vs,hv,r⟩:=r;exact⟨vs,hv,r.bc⟩
 |zU ts=>obtain⟨ws,hv,r⟩:=r;exact⟨ws,hv,uw.bc r⟩
theorem dM.aqx {w:World}(h:dM C g st a w hs)(t:Nat): gi (cO C g st w) (a.tmps.getD t undef) ((st.get t).borrow st.ep (.slot t)) []:=by obtain⟨fp,hr,_,_⟩:=h.slot t;cases hg:st.get t with|zU ts=>rw[hg]at hr;exact hr.bc|val gg cs=>rw[hg]at hr;obtain⟨vs,hv,hr⟩:=hr;exact⟨vs,hv,bD.borrow (c:=cO C g st w) (.slot t) 0 hr⟩
theorem an6 (c:RC)(v:Value):gi c v (ofConst v) []:=by unfold ofConst;split;exact⟨_,rfl,[],[],rfl,⟨rfl,rfl⟩,rfl⟩;exact⟨_,rfl,[],[],rfl,⟨rfl,rfl⟩,rfl⟩;exact⟨_,rfl,[],[],rfl,⟨by simp,rfl⟩,rfl⟩;exact⟨_,rfl,[],[],rfl,⟨rfl,rfl⟩,rfl⟩;exact gi.bot _ _
theorem dM.rd {w:World}(h:dM C g st a w hs)(x:Operand): gi (cO C g st w) (a.eval x) (st.rd x) []:=by cases x with|tmp t=>exact h.aqx t|const v=>exact an6 _ v|func f=>exact⟨_,rfl,[],[],rfl,⟨rfl,rfl⟩,rfl⟩|global gl=>exact gi.bot _ _
theorem gh {d:Nat}{v:AV}:(st.put (some d) v).slots=st.slots.set d v:=by simp[AS.put,fD]
theorem mm {v:AV}:(st.put d v).boxes=st.boxes:=by cases d<;>rfl
theorem Rf {v:AV}:(st.put d v).ep=st.ep:=by cases d<;>rfl
theorem aac {v:AV}:(st.put d v).iss=st.iss:=by cases d<;>rfl
theorem Qf {v:AV}:nm (st.put d v)=nm st:=by funext t;simp[nm,aac]
theorem RU {v:AV}:ic (st.put d v)=ic st:=by funext s;simp[ic,mm]
theorem QT {d:Nat}{v:Value}(i:Nat):(a.put (some d) v).tmps.getD i undef=if i=d/\d<a.tmps.size then v else a.tmps.getD i undef:=by simp only[Act.put,cY,Array.getElem?_setIfInBounds];by_cases h:d=i;subst h;by_cases hs:d<a.tmps.size<;>simp[hs];simp[h,cW h]
theorem adv {v:Value}:(a.put d v).tmps.size=a.tmps.size:=by cases d<;>simp[Act.put]
theorem Uw {v:Value}:(a.put d v).defers=a.defers:=by cases d<;>rfl
end Go.Dn
