import Derived.Test.YthllnaiaikjelaaGreatDnRel
/- The relation between an abstract state and the model's frame and memory. -/
namespace Go.Dn
open Go.RowKit
variable {st:AS} {c:RC} {hs:aq (Value×AV)} {d:ar Nat} {fp:dy}
inductive iO where
 |slot (i:Nat)|box (s:Nat)|hand (k:Nat)|io
 deriving DecidableEq
structure Gh where
 hw:Nat->Nat
 β:Nat->Nat
 dE:Nat->Option iO
 hdr:Nat->Value
variable {g:Gh}
def kO (st:AS)(t:Nat):Prop:=t%3≠2\/(nth st.iss (t/3/4096)).getD true=true
def fY (st:AS)(s:Nat):Prop:=∃cs,st.boxes[s]?=some (some cs)
structure Fr (M:Nat->Prop) (w w':World):Prop where
 os:w'.os=w.os
 tape:w'.tape=w.tape
 output:w'.output=w.output
 size:w.heap.size<=w'.heap.size
 block:∀b,b<w.heap.size->¬M b->w'.heap[b]?=w.heap[b]?
theorem Fr.refl (M:Nat->Prop)(w:World):Fr M w w:=⟨rfl,rfl,rfl,bc _,λ_ _ _=>rfl⟩
theorem Fr.trans {M M':Nat->Prop}{w w1 w2:World}(h:Fr M w w1)(k:Fr M' w1 w2)(hM:∀b,b<w.heap.size->M' b->M b):Fr M w w2:=⟨k.os.trans h.os,k.tape.trans h.tape,k.output.trans h.output,bf h.size k.size,λb hb hm=>(k.block b (gC hb h.size) (λm=>hm (hM b hb m))).trans (h.block b hb hm)⟩
theorem Fr.below {w w':World}(h:Fr (λ_=>False) w w'):Below w.heap.size w w':=⟨h.os,h.tape,h.output,h.size,λk hk=>h.block k hk (λm=>m)⟩
structure Ctx where
 A:Rg
 M:Nat->Prop
 w0:World
 ioV:List Value
 hA:∀k b o,A k b o->b<w0.heap.size/\¬M b
variable {C:Ctx}
def cv (C:Ctx)(g:Gh)(st:AS)(w:World):RC:=⟨g.hw,g.β,C.A,g.hdr,kO st,st.ep,fY st,w⟩
def WR (C:Ctx)(g:Gh)(st:AS)(a:Act)(w:World)(i:Nat)(av:AV):Prop:=
 ∃fp,fA (cv C g st w) (a.tmps.getD i undef) av fp/\fp.Nodup/\∀b∈fp,g.dE b=some (.slot i)
def agt (C:Ctx)(g:Gh)(st:AS)(w:World)(s:Nat)(cs:aq AC):Prop:=
 ∃arr T fr fp,w.heap[g.β s]?=some (.cells arr T fr)/\pe arr fr/\bn (cv C g st w) arr.toList cs fp/\fp.Nodup/\g.β s∉fp/\
  (∀b∈fp,g.dE b=some (.box s))/\g.dE (g.β s)=some (.box s)/\g.hw (g.β s)=0
def KT (C:Ctx)(g:Gh)(st:AS)(w:World)(k:Nat)(v:Value)(av:AV):Prop:=
 ∃fp,fA (cv C g st w) v av fp/\fp.Nodup/\∀b∈fp,g.dE b=some (.hand k)
structure dr (C:Ctx) (g:Gh) (st:AS) (a:Act) (w:World) (hs:List (Value×AV)):Prop where
 defers:a.defers=[]
 size:a.tmps.size=st.slots.length
 bsize:st.boxes.length=st.slots.length
 slots:∀i av,st.slots[i]?=some av->WR C g st a w i av
 boxes:∀s cs,st.boxes[s]?=some (some cs)->agt C g st w s cs
 hands:∀k v av,hs[k]?=some (v,av)->KT C g st w k v av
 ff:∀b x,g.dE b=some x->b<w.heap.size/\(C.w0.heap.size<=b\/C.M b)
 frame:Fr C.M C.w0 w
 io:∃fp,bn (cv C g st w) C.ioV st.io fp/\fp.Nodup/\∀b∈fp,g.dE b=some .io
def mM (C:Ctx)(st:AS)(a:Act)(w:World):Prop:=∃g,dr C g st a w []
theorem dr.Lf {a:Act}{w:World}(h:dr C g st a w hs){b:Nat}{x:iO}(hx:g.dE b=some x)(k:Bool)(o:Nat):¬C.A k b o:=by intro hA;have h1:=C.hA k b o hA;rcases(h.ff b x hx).2 with h2|h2;omega;exact h1.2 h2
theorem dr.step {g':Gh}{st':AS}{a a':Act}{w w':World}{tB:aq (Value×AV)}(h:dr C g st a w hs)(Kp:iO->Prop)(hle:(cv C g st w).Le (cv C g' st' w'))(aps:a'.defers=[])(sD:a'.tmps.size=st'.slots.length)(apr:st'.boxes.length=st'.slots.length)(gu:Fr C.M C.w0 w')(FW:∀b x,g'.dE b=some x->b<w'.heap.size/\(C.w0.heap.size<=b\/C.M b))(lg:∀b x,Kp x->g.dE b=some x->g'.dE b=some x/\w'.heap[b]?=w.heap[b]?/\g'.hw b=g.hw b)(Ob:∀i av,st'.slots[i]?=some av-> (Kp (.slot i)/\st.slots[i]?=some av/\a'.tmps.getD i undef=a.tmps.getD i undef)\/WR C g' st' a' w' i av)(um:∀s cs,st'.boxes[s]?=some (some cs)-> (Kp (.box s)/\st.boxes[s]?=some (some cs)/\g'.β s=g.β s)\/agt C g' st' w' s cs)(ahg:∀k v av,tB[k]?=some (v,av)-> (Kp (.hand k)/\hs[k]?=some (v,av))\/KT C g' st' w' k v av)(JJ:(Kp .io/\st'.io=st.io)\/∃fp,bn (cv C g' st' w') C.ioV st'.io fp/\fp.Nodup/\∀b∈fp,g'.dE b=some .io): dr C g' st' a' w' tB:=by refine⟨aps,sD,apr,λi av hi=>?_,λs cs hs=>?_,λk v av hk=>?_,FW,gu,?_⟩;rotate_right;rcases JJ with⟨kp,h1⟩|h1;obtain⟨fp,hr,hn,hl⟩:=h.io;refine⟨fp,?_,hn,λb hb=>(lg b _ kp (hl b hb)).1⟩;rw[h1];exact hr.mono hle (λb hb=>(lg b _ kp (hl b hb)).2);exact h1;rcases Ob i av hi with⟨kp,h1,h2⟩|h1;obtain⟨fp,hr,hn,hl⟩:=h.slots i av h1;refine⟨fp,?_,hn,λb hb=>(lg b _ kp (hl b hb)).1⟩;rw[h2];exact hr.mono hle (λb hb=>(lg b _ kp (hl b hb)).2);exact h1;rcases um s cs hs with⟨kp,h1,h2⟩|h1;obtain⟨arr,T,fr,fp,hb,qf,hr,hn,hni,hl,HQ,H8⟩:=h.boxes s cs h1;have hk0:=lg _ _ kp HQ;rw[<-h2]at hk0 hb hni H8;exact⟨arr,T,fr,fp,hk0.2.1.trans hb,qf,hr.mono hle (λb hb=>(lg b _ kp (hl b hb)).2),hn,hni,λb hb=>(lg b _ kp (hl b hb)).1,hk0.1,hk0.2.2.trans H8⟩;exact h1;rcases ahg k v av hk with⟨kp,h1⟩|h1;obtain⟨fp,hr,hn,hl⟩:=h.hands k v av h1;exact⟨fp,hr.mono hle (λb hb=>(lg b _ kp (hl b hb)).2),hn,λb hb=>(lg b _ kp (hl b hb)).1⟩;exact h1
theorem get_eq {i:Nat}{av:AV}(h:st.slots[i]?=some av):st.get i=av:=by simp[AS.get,dv,h]
theorem fA.bot (c:RC)(v:Value):fA c v .bot []:=⟨[v],by simp[Cut],[],[],rfl,rfl,rfl⟩
theorem dr.slot {a:Act}{w:World}(h:dr C g st a w hs)(i:Nat): WR C g st a w i (st.get i):=by
 by_cases hi:i<st.slots.length;have:=ax hi;rw[get_eq this];exact h.slots i _ this;have:st.get i=.bot:=by simp[AS.get,dv,br (Nat.le_of_not_lt hi)]
 rw[this];exact⟨[],fA.bot _ _,by simp,by simp⟩
theorem Kf {hw:Nat->Nat}{w:World}{e:CT}{v:Value}{xs:aq e.D}(h:dY hw w (.sl e) [v] xs fp):∃o n k,v=.slice o n k/\n=xs.length:=by obtain⟨u,hu,h⟩:=h;simp at hu;subst hu;rcases h with⟨⟨a,rfl⟩,rfl,_⟩|⟨b,o0,cap,arr,T,fr,fps,rfl,_⟩;exact⟨_,_,_,rfl,rfl⟩;exact⟨_,_,_,rfl,rfl⟩
theorem gy.borrow {v:Value}{x:AC}(r:gy c v x fp)(rt:ar jR):gy c v (x.borrow c.ep rt) []:=by
 cases x with
 |sl fl e xs=>
  cases fl with
  |own tag=>
   simp only[AC.borrow,gy]
   have hh:=Kf r.1
   refine⟨bX,bc _,hh,λ_=>dY.rep (λb o ho=> .inr ho) r.1,λr' t hp=>?_⟩
   cases rt with
   |none=>simp at hp
   |some r0=>
    cases tag with
    |none=>simp at hp
    |some t0=>
     simp at hp
     obtain⟨_,rfl⟩:=hp
     exact⟨(r.2 t0 rfl).1,(r.2 t0 rfl).2⟩
  |loc ep' pv'=>obtain⟨h1,h2⟩:=r;exact⟨rfl,h2⟩
  |arg _=>exact⟨rfl,r.2⟩
  |nest _ _ _ _ _ _=>exact⟨rfl,r.2⟩
  |part _ _ _ _=>exact⟨rfl,r.2⟩
  |eS tag i NJ=>
   obtain⟨h1,⟨k,hk,h3⟩,h4⟩:=r
   cases NJ with
   |none=>exact rfl
   |some NJ=>
   simp only[AC.borrow,gy]
   refine⟨bX,(h1 NJ rfl).1,?_,(h1 NJ rfl).2,λr' t hp=>?_⟩
   ·obtain⟨b,o0,cap,arr,T,fr,fps,rfl,_⟩:=h3
    exact⟨_,_,_,rfl,rfl⟩
   ·cases rt with
    |none=>simp at hp
    |some r0=>
     cases tag with
     |none=>simp at hp
     |some t0=>
      simp at hp
      obtain⟨_,rfl⟩:=hp
      exact h4 t0 rfl
 |int k n=>exact⟨r.1,rfl⟩
 |bool b=>exact⟨r.1,rfl⟩
 |str s=>exact⟨r.1,rfl⟩
 |jd=>exact⟨r.1,rfl⟩
 |ptr s off=>exact⟨r.1,r.2.1,rfl⟩
 |fn f=>exact⟨r.1,rfl⟩
 |un=>exact⟨r.1,rfl⟩
 |bot=>exact rfl
 |Cg fl e y i off=>
  cases fl with
  |own tag=>exact r
  |loc ep' pv'=>exact⟨rfl,r.2⟩
  |arg _=>exact⟨rfl,r.2⟩
  |nest _ _ _ _ _ _=>exact r.elim
  |part _ _ _ _=>exact r.elim
  |eS _ _ _=>exact r.elim
theorem bn.aR:∀{vs:gO}{xs:aq AC}{fp:dy},bn c vs xs fp->bn c vs (aR c.ep xs) []
 |[],[],_,_=>rfl
 |_::_,_::_,_,r=>by obtain⟨f1,f2,rfl,r1,r2⟩:=r;exact⟨[],[],rfl,r1.borrow none,bn.aR r2⟩
 |[],_::_,_,r=>r.elim
 |_::_,[],_,r=>r.elim
theorem gy.Y9 {v:Value}{x:AC}(r:gy c v (x.borrow c.ep none) []):gy c v (x.borrow 0 none) []:=by
 cases x with
 |sl fl e xs=>cases fl with|own tag=>simp only[AC.borrow,gy]at r⊢;exact⟨bX,fB _,r.2.2.1,λ_=>r.2.2.2.1 trivial,λ_ _ hp=>nomatch hp⟩|eS tag i ep=>cases ep<;>exact r|loc ep pv=>exact r|arg _=>exact r|nest _ _ _ _ _ _=>exact r|part _ _ _ _=>exact r
 |int _ _=>exact r
 |bool _=>exact r
 |str _=>exact r
 |jd=>exact r
 |ptr _ _=>exact r
 |fn _=>exact r
 |un=>exact r
 |bot=>exact r
 |Cg _ _ _ _ _=>exact r
theorem bn.Y9:∀{vs:gO}{xs:aq AC}{fp:dy},bn c vs xs fp->bn c vs (Dn.aR 0 xs) []
 |[],[],_,_=>rfl
 |_::_,_::_,_,r=>by obtain⟨f1,f2,rfl,r1,r2⟩:=r;exact⟨[],[],rfl,(r1.borrow none).Y9,bn.Y9 r2⟩
 |[],_::_,_,r=>r.elim
 |_::_,[],_,r=>r.elim
theorem bn.borrow (f:Nat->jR):∀{vs:gO}{xs:aq AC}{fp:dy}(j:Nat),bn c vs xs fp->bn c vs (ic c.ep f j xs) []
 |[],[],_,_,_=>rfl
 |_::_,_::_,_,j,r=>by obtain⟨f1,f2,rfl,r1,r2⟩:=r;exact⟨[],[],rfl,r1.borrow _,bn.borrow f (j+1) r2⟩
 |[],_::_,_,_,r=>r.elim
 |_::_,[],_,_,r=>r.elim
theorem pX.aR:∀{vs:gO}{xs:aq (Bool×aq AC)}{fp:dy},fA.pX c vs xs fp->fA.pX c vs (xs.map λx=>(x.1,Dn.aR c.ep x.2)) []
 |[],[],_,_=>rfl
 |_::_,_::_,_,r=>by obtain⟨f1,f2,rfl,⟨vs,hv,r1⟩,r2⟩:=r;exact⟨[],[],rfl,⟨vs,hv,r1.aR⟩,pX.aR r2⟩
 |[],_::_,_,r=>r.elim
 |_::_,[],_,r=>r.elim
theorem fA.aR {v:Value}{x:AV}(r:fA c v x fp):fA c v (x.aR c.ep) []:=by
 cases x with
 |val g cs=>obtain⟨vs,hv,r⟩:=r;exact⟨vs,hv,r.aR⟩
 |uT ts=>obtain⟨ws,hv,r⟩:=r;exact⟨ws,hv,pX.aR r⟩
theorem dr.ahK {a:Act}{w:World}(h:dr C g st a w hs)(t:Nat): fA (cv C g st w) (a.tmps.getD t undef) ((st.get t).borrow st.ep (.slot t)) []:=by obtain⟨fp,hr,_,_⟩:=h.slot t;cases hg:st.get t with|uT ts=>rw[hg]at hr;exact hr.aR|val gg cs=>rw[hg]at hr;obtain⟨vs,hv,hr⟩:=hr;exact⟨vs,hv,bn.borrow (c:=cv C g st w) (.slot t) 0 hr⟩
theorem afm (c:RC)(v:Value):fA c v (ofConst v) []:=by unfold ofConst;split;exact⟨_,rfl,[],[],rfl,⟨rfl,rfl⟩,rfl⟩;exact⟨_,rfl,[],[],rfl,⟨rfl,rfl⟩,rfl⟩;exact⟨_,rfl,[],[],rfl,⟨by simp,rfl⟩,rfl⟩;exact⟨_,rfl,[],[],rfl,⟨rfl,rfl⟩,rfl⟩;exact fA.bot _ _
theorem dr.rd {a:Act}{w:World}(h:dr C g st a w hs)(x:Operand): fA (cv C g st w) (a.eval x) (st.rd x) []:=by cases x with|tmp t=>exact h.ahK t|const v=>exact afm _ v|func f=>exact⟨_,rfl,[],[],rfl,⟨rfl,rfl⟩,rfl⟩|global gl=>exact fA.bot _ _
theorem fz {d:Nat}{v:AV}:(st.put (some d) v).slots=st.slots.set d v:=by simp[AS.put,eN]
theorem ki {v:AV}:(st.put d v).boxes=st.boxes:=by cases d<;>rfl
theorem K2 {v:AV}:(st.put d v).ep=st.ep:=by cases d<;>rfl
theorem SU {v:AV}:(st.put d v).iss=st.iss:=by cases d<;>rfl
theorem J9 {v:AV}:kO (st.put d v)=kO st:=by funext t;simp[kO,SU]
theorem Lx {v:AV}:fY (st.put d v)=fY st:=by funext s;simp[fY,ki]
theorem KI {a:Act}{d:Nat}{v:Value}(i:Nat):(a.put (some d) v).tmps.getD i undef=if i=d/\d<a.tmps.size then v else a.tmps.getD i undef:=by simp only[Act.put,cE,Array.getElem?_setIfInBounds];by_cases h:d=i;subst h;by_cases hs:d<a.tmps.size<;>simp[hs];simp[h,cC h]
theorem VQ {a:Act}{v:Value}:(a.put d v).tmps.size=a.tmps.size:=by cases d<;>simp[Act.put]
theorem NC {a:Act}{v:Value}:(a.put d v).defers=a.defers:=by cases d<;>rfl
end Go.Dn
