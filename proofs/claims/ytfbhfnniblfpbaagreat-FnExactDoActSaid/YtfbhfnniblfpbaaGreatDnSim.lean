import Derived.Test.YtfbhfnniblfpbaaGreatDnRel
/- The relation between an abstract state and the model's frame and memory. -/
namespace Go.Dn
open Go.RowKit
variable {st:AS} {a:Act} {c:RC} {hs:ar (Value×AV)} {d:aw Nat} {fp:dV}
inductive jc where
 |slot (i:Nat)|box (s:Nat)|hand (k:Nat)|io
 deriving DecidableEq
structure Gh where
 hw:Nat->Nat
 β:Nat->Nat
 dJ:Nat->Option jc
 hdr:Nat->Value
variable {g:Gh}
def lI (st:AS)(t:Nat):Prop:=t%3≠2\/(nth st.iss (t/3/4096)).getD true=true
def gx (st:AS)(s:Nat):Prop:=∃cs,st.boxes[s]?=some (some cs)
structure Fr (M:Nat->Prop) (w w':World):Prop where
 os:w'.os=w.os
 tape:w'.tape=w.tape
 output:w'.output=w.output
 size:w.heap.size<=w'.heap.size
 block:∀b,b<w.heap.size->¬M b->w'.heap[b]?=w.heap[b]?
theorem Fr.refl (M:Nat->Prop)(w:World):Fr M w w:=⟨rfl,rfl,rfl,aU _,λ_ _ _=>rfl⟩
theorem Fr.trans {M M':Nat->Prop}{w w1 w2:World}(h:Fr M w w1)(k:Fr M' w1 w2)(hM:∀b,b<w.heap.size->M' b->M b):Fr M w w2:=⟨k.os.trans h.os,k.tape.trans h.tape,k.output.trans h.output,aE h.size k.size,λb hb hm=>(k.block b (gO hb h.size) (λm=>hm (hM b hb m))).trans (h.block b hb hm)⟩
theorem Fr.below {w w':World}(h:Fr (λ_=>False) w w'):Below w.heap.size w w':=⟨h.os,h.tape,h.output,h.size,λk hk=>h.block k hk (λm=>m)⟩
structure Ctx where
 A:Rg
 M:Nat->Prop
 w0:World
 ioV:List Value
 hA:∀k b o,A k b o->b<w0.heap.size/\¬M b
variable {C:Ctx}
def cy (C:Ctx)(g:Gh)(st:AS)(w:World):RC:=⟨g.hw,g.β,C.A,g.hdr,lI st,st.ep,gx st,w⟩
def Xm (C:Ctx)(g:Gh)(st:AS)(a:Act)(w:World)(i:Nat)(av:AV):Prop:=
 ∃fp,fL (cy C g st w) (a.tmps.getD i undef) av fp/\fp.Nodup/\∀b∈fp,g.dJ b=some (.slot i)
def ahh (C:Ctx)(g:Gh)(st:AS)(w:World)(s:Nat)(cs:ar AC):Prop:=
 ∃arr T fr fp,w.heap[g.β s]?=some (.cells arr T fr)/\qc arr fr/\bn (cy C g st w) arr.toList cs fp/\fp.Nodup/\g.β s∉fp/\
  (∀b∈fp,g.dJ b=some (.box s))/\g.dJ (g.β s)=some (.box s)/\g.hw (g.β s)=0
def K4 (C:Ctx)(g:Gh)(st:AS)(w:World)(k:Nat)(v:Value)(av:AV):Prop:=
 ∃fp,fL (cy C g st w) v av fp/\fp.Nodup/\∀b∈fp,g.dJ b=some (.hand k)
structure dw (C:Ctx) (g:Gh) (st:AS) (a:Act) (w:World) (hs:List (Value×AV)):Prop where
 defers:a.defers=[]
 size:a.tmps.size=st.slots.length
 bsize:st.boxes.length=st.slots.length
 slots:∀i av,st.slots[i]?=some av->Xm C g st a w i av
 boxes:∀s cs,st.boxes[s]?=some (some cs)->ahh C g st w s cs
 hands:∀k v av,hs[k]?=some (v,av)->K4 C g st w k v av
 fA:∀b x,g.dJ b=some x->b<w.heap.size/\(C.w0.heap.size<=b\/C.M b)
 frame:Fr C.M C.w0 w
 io:∃fp,bn (cy C g st w) C.ioV st.io fp/\fp.Nodup/\∀b∈fp,g.dJ b=some .io
def nt (C:Ctx)(st:AS)(a:Act)(w:World):Prop:=∃g,dw C g st a w []
theorem dw.Lr {w:World}(h:dw C g st a w hs){b:Nat}{x:jc}(hx:g.dJ b=some x)(k:Bool)(o:Nat):¬C.A k b o:=by intro hA;have h1:=C.hA k b o hA;rcases(h.fA b x hx).2 with h2|h2;omega;exact h1.2 h2
theorem dw.step {g':Gh}{st':AS}{a':Act}{w w':World}{uv:ar (Value×AV)}(h:dw C g st a w hs)(Kp:jc->Prop)(hle:(cy C g st w).Le (cy C g' st' w'))(ap0:a'.defers=[])(tu:a'.tmps.size=st'.slots.length)(apZ:st'.boxes.length=st'.slots.length)(gM:Fr C.M C.w0 w')(Gw:∀b x,g'.dJ b=some x->b<w'.heap.size/\(C.w0.heap.size<=b\/C.M b))(mc:∀b x,Kp x->g.dJ b=some x->g'.dJ b=some x/\w'.heap[b]?=w.heap[b]?/\g'.hw b=g.hw b)(Oz:∀i av,st'.slots[i]?=some av-> (Kp (.slot i)/\st.slots[i]?=some av/\a'.tmps.getD i undef=a.tmps.getD i undef)\/Xm C g' st' a' w' i av)(vk:∀s cs,st'.boxes[s]?=some (some cs)-> (Kp (.box s)/\st.boxes[s]?=some (some cs)/\g'.β s=g.β s)\/ahh C g' st' w' s cs)(ahW:∀k v av,uv[k]?=some (v,av)-> (Kp (.hand k)/\hs[k]?=some (v,av))\/K4 C g' st' w' k v av)(JX:(Kp .io/\st'.io=st.io)\/∃fp,bn (cy C g' st' w') C.ioV st'.io fp/\fp.Nodup/\∀b∈fp,g'.dJ b=some .io): dw C g' st' a' w' uv:=by refine⟨ap0,tu,apZ,λi av hi=>?_,λs cs hs=>?_,λk v av hk=>?_,Gw,gM,?_⟩;rotate_right;rcases JX with⟨kp,h1⟩|h1;obtain⟨fp,hr,hn,hl⟩:=h.io;refine⟨fp,?_,hn,λb hb=>(mc b _ kp (hl b hb)).1⟩;rw[h1];exact hr.mono hle (λb hb=>(mc b _ kp (hl b hb)).2);exact h1;rcases Oz i av hi with⟨kp,h1,h2⟩|h1;obtain⟨fp,hr,hn,hl⟩:=h.slots i av h1;refine⟨fp,?_,hn,λb hb=>(mc b _ kp (hl b hb)).1⟩;rw[h2];exact hr.mono hle (λb hb=>(mc b _ kp (hl b hb)).2);exact h1;rcases vk s cs hs with⟨kp,h1,h2⟩|h1;obtain⟨arr,T,fr,fp,hb,qS,hr,hn,hni,hl,Ih,Ix⟩:=h.boxes s cs h1;have hk0:=mc _ _ kp Ih;rw[<-h2]at hk0 hb hni Ix;exact⟨arr,T,fr,fp,hk0.2.1.trans hb,qS,hr.mono hle (λb hb=>(mc b _ kp (hl b hb)).2),hn,hni,λb hb=>(mc b _ kp (hl b hb)).1,hk0.1,hk0.2.2.trans Ix⟩;exact h1;rcases ahW k v av hk with⟨kp,h1⟩|h1;obtain⟨fp,hr,hn,hl⟩:=h.hands k v av h1;exact⟨fp,hr.mono hle (λb hb=>(mc b _ kp (hl b hb)).2),hn,λb hb=>(mc b _ kp (hl b hb)).1⟩;exact h1
theorem get_eq {i:Nat}{av:AV}(h:st.slots[i]?=some av):st.get i=av:=by simp[AS.get,dA,h]
theorem fL.bot (c:RC)(v:Value):fL c v .bot []:=⟨[v],by simp[Cut],[],[],rfl,rfl,rfl⟩
theorem dw.slot {w:World}(h:dw C g st a w hs)(i:Nat): Xm C g st a w i (st.get i):=by
 by_cases hi:i<st.slots.length;have:=al hi;rw[get_eq this];exact h.slots i _ this;have:st.get i=.bot:=by simp[AS.get,dA,bH (Nat.le_of_not_lt hi)]
 rw[this];exact⟨[],fL.bot _ _,by simp,by simp⟩
theorem Kr {hw:Nat->Nat}{w:World}{e:CT}{v:Value}{xs:ar e.D}(h:eo hw w (.sl e) [v] xs fp):∃o n k,v=.slice o n k/\n=xs.length:=by obtain⟨u,hu,h⟩:=h;simp at hu;subst hu;rcases h with⟨⟨a,rfl⟩,rfl,_⟩|⟨b,o0,cap,arr,T,fr,fps,rfl,_⟩;exact⟨_,_,_,rfl,rfl⟩;exact⟨_,_,_,rfl,rfl⟩
theorem gI.borrow {v:Value}{x:AC}(r:gI c v x fp)(rt:aw kq):gI c v (x.borrow c.ep rt) []:=by
 cases x with
 |sl fl e xs=>
  cases fl with
  |own tag=>
   simp only[AC.borrow,gI]
   have hh:=Kr r.1
   refine⟨bV,aU _,hh,λ_=>eo.rep (λb o ho=> .inr ho) r.1,λr' t hp=>?_⟩
   cases rt with
   |none=>simp at hp
   |some r0=>
    cases tag with
    |none=>simp at hp
    |some t0=>
     simp at hp
     obtain⟨_,rfl⟩:=hp
     exact⟨(r.2 t0 rfl).1,(r.2 t0 rfl).2⟩
  |loc ep' pv'=>obtain⟨h1,h2⟩:=r;exact⟨rfl,h2⟩
  |arg _=>exact⟨rfl,r.2⟩
  |nest _ _ _ _ _ _=>exact⟨rfl,r.2⟩
  |part _ _ _ _=>exact⟨rfl,r.2⟩
  |fe tag i N2=>
   obtain⟨h1,⟨k,hk,h3⟩,h4⟩:=r
   cases N2 with
   |none=>exact rfl
   |some N2=>
   simp only[AC.borrow,gI]
   refine⟨bV,(h1 N2 rfl).1,?_,(h1 N2 rfl).2,λr' t hp=>?_⟩
   ·obtain⟨b,o0,cap,arr,T,fr,fps,rfl,_⟩:=h3
    exact⟨_,_,_,rfl,rfl⟩
   ·cases rt with
    |none=>simp at hp
    |some r0=>
     cases tag with
     |none=>simp at hp
     |some t0=>
      simp at hp
      obtain⟨_,rfl⟩:=hp
      exact h4 t0 rfl
 |int k n=>exact⟨r.1,rfl⟩
 |bool b=>exact⟨r.1,rfl⟩
 |str s=>exact⟨r.1,rfl⟩
 |jw=>exact⟨r.1,rfl⟩
 |ptr s off=>exact⟨r.1,r.2.1,rfl⟩
 |fn f=>exact⟨r.1,rfl⟩
 |un=>exact⟨r.1,rfl⟩
 |bot=>exact rfl
 |C1 fl e y i off=>
  cases fl with
  |own tag=>exact r
  |loc ep' pv'=>exact⟨rfl,r.2⟩
  |arg _=>exact⟨rfl,r.2⟩
  |nest _ _ _ _ _ _=>exact r.elim
  |part _ _ _ _=>exact r.elim
  |fe _ _ _=>exact r.elim
theorem bn.aR:∀{vs:ic}{xs:ar AC}{fp:dV},bn c vs xs fp->bn c vs (aR c.ep xs) []
 |[],[],_,_=>rfl
 |_::_,_::_,_,r=>by obtain⟨f1,f2,rfl,r1,r2⟩:=r;exact⟨[],[],rfl,r1.borrow none,bn.aR r2⟩
 |[],_::_,_,r=>r.elim
 |_::_,[],_,r=>r.elim
theorem gI.ZO {v:Value}{x:AC}(r:gI c v (x.borrow c.ep none) []):gI c v (x.borrow 0 none) []:=by
 cases x with
 |sl fl e xs=>cases fl with|own tag=>simp only[AC.borrow,gI]at r⊢;exact⟨bV,eH _,r.2.2.1,λ_=>r.2.2.2.1 trivial,λ_ _ hp=>nomatch hp⟩|fe tag i ep=>cases ep<;>exact r|loc ep pv=>exact r|arg _=>exact r|nest _ _ _ _ _ _=>exact r|part _ _ _ _=>exact r
 |int _ _=>exact r
 |bool _=>exact r
 |str _=>exact r
 |jw=>exact r
 |ptr _ _=>exact r
 |fn _=>exact r
 |un=>exact r
 |bot=>exact r
 |C1 _ _ _ _ _=>exact r
theorem bn.ZO:∀{vs:ic}{xs:ar AC}{fp:dV},bn c vs xs fp->bn c vs (Dn.aR 0 xs) []
 |[],[],_,_=>rfl
 |_::_,_::_,_,r=>by obtain⟨f1,f2,rfl,r1,r2⟩:=r;exact⟨[],[],rfl,(r1.borrow none).ZO,bn.ZO r2⟩
 |[],_::_,_,r=>r.elim
 |_::_,[],_,r=>r.elim
theorem bn.borrow (f:Nat->kq):∀{vs:ic}{xs:ar AC}{fp:dV}(j:Nat),bn c vs xs fp->bn c vs (iy c.ep f j xs) []
 |[],[],_,_,_=>rfl
 |_::_,_::_,_,j,r=>by obtain⟨f1,f2,rfl,r1,r2⟩:=r;exact⟨[],[],rfl,r1.borrow _,bn.borrow f (j+1) r2⟩
 |[],_::_,_,_,r=>r.elim
 |_::_,[],_,_,r=>r.elim
theorem qJ.aR:∀{vs:ic}{xs:ar (Bool×ar AC)}{fp:dV},fL.qJ c vs xs fp->fL.qJ c vs (xs.map λx=>(x.1,Dn.aR c.ep x.2)) []
 |[],[],_,_=>rfl
 |_::_,_::_,_,r=>by obtain⟨f1,f2,rfl,⟨vs,hv,r1⟩,r2⟩:=r;exact⟨[],[],rfl,⟨vs,hv,r1.aR⟩,qJ.aR r2⟩
 |[],_::_,_,r=>r.elim
 |_::_,[],_,r=>r.elim
theorem fL.aR {v:Value}{x:AV}(r:fL c v x fp):fL c v (x.aR c.ep) []:=by
 cases x with
 |val g cs=>obtain⟨vs,hv,r⟩:=r;exact⟨vs,hv,r.aR⟩
 |vQ ts=>obtain⟨ws,hv,r⟩:=r;exact⟨ws,hv,qJ.aR r⟩
theorem dw.aip {w:World}(h:dw C g st a w hs)(t:Nat): fL (cy C g st w) (a.tmps.getD t undef) ((st.get t).borrow st.ep (.slot t)) []:=by obtain⟨fp,hr,_,_⟩:=h.slot t;cases hg:st.get t with|vQ ts=>rw[hg]at hr;exact hr.aR|val gg cs=>rw[hg]at hr;obtain⟨vs,hv,hr⟩:=hr;exact⟨vs,hv,bn.borrow (c:=cy C g st w) (.slot t) 0 hr⟩
theorem af5 (c:RC)(v:Value):fL c v (ofConst v) []:=by unfold ofConst;split;exact⟨_,rfl,[],[],rfl,⟨rfl,rfl⟩,rfl⟩;exact⟨_,rfl,[],[],rfl,⟨rfl,rfl⟩,rfl⟩;exact⟨_,rfl,[],[],rfl,⟨by simp,rfl⟩,rfl⟩;exact⟨_,rfl,[],[],rfl,⟨rfl,rfl⟩,rfl⟩;exact fL.bot _ _
theorem dw.rd {w:World}(h:dw C g st a w hs)(x:Operand): fL (cy C g st w) (a.eval x) (st.rd x) []:=by cases x with|tmp t=>exact h.aip t|const v=>exact af5 _ v|func f=>exact⟨_,rfl,[],[],rfl,⟨rfl,rfl⟩,rfl⟩|global gl=>exact fL.bot _ _
theorem fK {d:Nat}{v:AV}:(st.put (some d) v).slots=st.slots.set d v:=by simp[AS.put,eV]
theorem kO {v:AV}:(st.put d v).boxes=st.boxes:=by cases d<;>rfl
theorem Lc {v:AV}:(st.put d v).ep=st.ep:=by cases d<;>rfl
theorem Tp {v:AV}:(st.put d v).iss=st.iss:=by cases d<;>rfl
theorem Kl {v:AV}:lI (st.put d v)=lI st:=by funext t;simp[lI,Tp]
theorem LJ {v:AV}:gx (st.put d v)=gx st:=by funext s;simp[gx,kO]
theorem KT {d:Nat}{v:Value}(i:Nat):(a.put (some d) v).tmps.getD i undef=if i=d/\d<a.tmps.size then v else a.tmps.getD i undef:=by simp only[Act.put,cH,Array.getElem?_setIfInBounds];by_cases h:d=i;subst h;by_cases hs:d<a.tmps.size<;>simp[hs];simp[h,cG h]
theorem Wp {v:Value}:(a.put d v).tmps.size=a.tmps.size:=by cases d<;>simp[Act.put]
theorem NX {v:Value}:(a.put d v).defers=a.defers:=by cases d<;>rfl
end Go.Dn
