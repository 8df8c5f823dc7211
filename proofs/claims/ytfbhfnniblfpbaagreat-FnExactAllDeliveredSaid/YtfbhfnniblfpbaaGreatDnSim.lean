import Derived.Test.YtfbhfnniblfpbaaGreatDnRel
/- The relation between an abstract state and the model's frame and memory. -/
namespace Go.Dn
open Go.RowKit
variable {st:AS} {a:Act} {c:RC} {hs:au (Value×AV)} {d:aw Nat} {fp:dI}
inductive iT where
 |slot (i:Nat)|box (s:Nat)|hand (k:Nat)|io
 deriving DecidableEq
structure Gh where
 hw:Nat->Nat
 β:Nat->Nat
 dB:Nat->Option iT
 hdr:Nat->Value
variable {g:Gh}
def ll (st:AS)(t:Nat):Prop:=t%3≠2\/(nth st.iss (t/3/4096)).getD true=true
def fX (st:AS)(s:Nat):Prop:=∃cs,st.boxes[s]?=some (some cs)
structure Fr (M:Nat->Prop) (w w':World):Prop where
 os:w'.os=w.os
 tape:w'.tape=w.tape
 output:w'.output=w.output
 size:w.heap.size<=w'.heap.size
 block:∀b,b<w.heap.size->¬M b->w'.heap[b]?=w.heap[b]?
theorem Fr.refl (M:Nat->Prop)(w:World):Fr M w w:=⟨rfl,rfl,rfl,aX _,λ_ _ _=>rfl⟩
theorem Fr.trans {M M':Nat->Prop}{w w1 w2:World}(h:Fr M w w1)(k:Fr M' w1 w2)(hM:∀b,b<w.heap.size->M' b->M b):Fr M w w2:=⟨k.os.trans h.os,k.tape.trans h.tape,k.output.trans h.output,aH h.size k.size,λb hb hm=>(k.block b (gy hb h.size) (λm=>hm (hM b hb m))).trans (h.block b hb hm)⟩
theorem Fr.below {w w':World}(h:Fr (λ_=>False) w w'):Below w.heap.size w w':=⟨h.os,h.tape,h.output,h.size,λk hk=>h.block k hk (λm=>m)⟩
structure Ctx where
 A:Rg
 M:Nat->Prop
 w0:World
 ioV:List Value
 hA:∀k b o,A k b o->b<w0.heap.size/\¬M b
variable {C:Ctx}
def cq (C:Ctx)(g:Gh)(st:AS)(w:World):RC:=⟨g.hw,g.β,C.A,g.hdr,ll st,st.ep,fX st,w⟩
def WT (C:Ctx)(g:Gh)(st:AS)(a:Act)(w:World)(i:Nat)(av:AV):Prop:=
 ∃fp,fy (cq C g st w) (a.tmps.getD i undef) av fp/\fp.Nodup/\∀b∈fp,g.dB b=some (.slot i)
def agl (C:Ctx)(g:Gh)(st:AS)(w:World)(s:Nat)(cs:au AC):Prop:=
 ∃arr T fr fp,w.heap[g.β s]?=some (.cells arr T fr)/\pL arr fr/\bp (cq C g st w) arr.toList cs fp/\fp.Nodup/\g.β s∉fp/\
  (∀b∈fp,g.dB b=some (.box s))/\g.dB (g.β s)=some (.box s)/\g.hw (g.β s)=0
def KF (C:Ctx)(g:Gh)(st:AS)(w:World)(k:Nat)(v:Value)(av:AV):Prop:=
 ∃fp,fy (cq C g st w) v av fp/\fp.Nodup/\∀b∈fp,g.dB b=some (.hand k)
structure dk (C:Ctx) (g:Gh) (st:AS) (a:Act) (w:World) (hs:List (Value×AV)):Prop where
 defers:a.defers=[]
 size:a.tmps.size=st.slots.length
 bsize:st.boxes.length=st.slots.length
 slots:∀i av,st.slots[i]?=some av->WT C g st a w i av
 boxes:∀s cs,st.boxes[s]?=some (some cs)->agl C g st w s cs
 hands:∀k v av,hs[k]?=some (v,av)->KF C g st w k v av
 fa:∀b x,g.dB b=some x->b<w.heap.size/\(C.w0.heap.size<=b\/C.M b)
 frame:Fr C.M C.w0 w
 io:∃fp,bp (cq C g st w) C.ioV st.io fp/\fp.Nodup/\∀b∈fp,g.dB b=some .io
def nb (C:Ctx)(st:AS)(a:Act)(w:World):Prop:=∃g,dk C g st a w []
theorem dk.K1 {w:World}(h:dk C g st a w hs){b:Nat}{x:iT}(hx:g.dB b=some x)(k:Bool)(o:Nat):¬C.A k b o:=by intro hA;have h1:=C.hA k b o hA;rcases(h.fa b x hx).2 with h2|h2;omega;exact h1.2 h2
theorem dk.step {g':Gh}{st':AS}{a':Act}{w w':World}{tV:au (Value×AV)}(h:dk C g st a w hs)(Kp:iT->Prop)(hle:(cq C g st w).Le (cq C g' st' w'))(aoH:a'.defers=[])(sR:a'.tmps.size=st'.slots.length)(aoG:st'.boxes.length=st'.slots.length)(gw:Fr C.M C.w0 w')(FP:∀b x,g'.dB b=some x->b<w'.heap.size/\(C.w0.heap.size<=b\/C.M b))(lH:∀b x,Kp x->g.dB b=some x->g'.dB b=some x/\w'.heap[b]?=w.heap[b]?/\g'.hw b=g.hw b)(Od:∀i av,st'.slots[i]?=some av-> (Kp (.slot i)/\st.slots[i]?=some av/\a'.tmps.getD i undef=a.tmps.getD i undef)\/WT C g' st' a' w' i av)(uI:∀s cs,st'.boxes[s]?=some (some cs)-> (Kp (.box s)/\st.boxes[s]?=some (some cs)/\g'.β s=g.β s)\/agl C g' st' w' s cs)(ag5:∀k v av,tV[k]?=some (v,av)-> (Kp (.hand k)/\hs[k]?=some (v,av))\/KF C g' st' w' k v av)(Jp:(Kp .io/\st'.io=st.io)\/∃fp,bp (cq C g' st' w') C.ioV st'.io fp/\fp.Nodup/\∀b∈fp,g'.dB b=some .io): dk C g' st' a' w' tV:=by refine⟨aoH,sR,aoG,λi av hi=>?_,λs cs hs=>?_,λk v av hk=>?_,FP,gw,?_⟩;rotate_right;rcases Jp with⟨kp,h1⟩|h1;obtain⟨fp,hr,hn,hl⟩:=h.io;refine⟨fp,?_,hn,λb hb=>(lH b _ kp (hl b hb)).1⟩;rw[h1];exact hr.mono hle (λb hb=>(lH b _ kp (hl b hb)).2);exact h1;rcases Od i av hi with⟨kp,h1,h2⟩|h1;obtain⟨fp,hr,hn,hl⟩:=h.slots i av h1;refine⟨fp,?_,hn,λb hb=>(lH b _ kp (hl b hb)).1⟩;rw[h2];exact hr.mono hle (λb hb=>(lH b _ kp (hl b hb)).2);exact h1;rcases uI s cs hs with⟨kp,h1,h2⟩|h1;obtain⟨arr,T,fr,fp,hb,qG,hr,hn,hni,hl,Gg,HV⟩:=h.boxes s cs h1;have hk0:=lH _ _ kp Gg;rw[<-h2]at hk0 hb hni HV;exact⟨arr,T,fr,fp,hk0.2.1.trans hb,qG,hr.mono hle (λb hb=>(lH b _ kp (hl b hb)).2),hn,hni,λb hb=>(lH b _ kp (hl b hb)).1,hk0.1,hk0.2.2.trans HV⟩;exact h1;rcases ag5 k v av hk with⟨kp,h1⟩|h1;obtain⟨fp,hr,hn,hl⟩:=h.hands k v av h1;exact⟨fp,hr.mono hle (λb hb=>(lH b _ kp (hl b hb)).2),hn,λb hb=>(lH b _ kp (hl b hb)).1⟩;exact h1
theorem get_eq {i:Nat}{av:AV}(h:st.slots[i]?=some av):st.get i=av:=by simp[AS.get,dv,h]
theorem fy.bot (c:RC)(v:Value):fy c v .bot []:=⟨[v],by simp[Cut],[],[],rfl,rfl,rfl⟩
theorem dk.slot {w:World}(h:dk C g st a w hs)(i:Nat): WT C g st a w i (st.get i):=by
 by_cases hi:i<st.slots.length;have:=al hi;rw[get_eq this];exact h.slots i _ this;have:st.get i=.bot:=by simp[AS.get,dv,bE (Nat.le_of_not_lt hi)]
 rw[this];exact⟨[],fy.bot _ _,by simp,by simp⟩
theorem JT {hw:Nat->Nat}{w:World}{e:CT}{v:Value}{xs:au e.D}(h:dW hw w (.sl e) [v] xs fp):∃o n k,v=.slice o n k/\n=xs.length:=by obtain⟨u,hu,h⟩:=h;simp at hu;subst hu;rcases h with⟨⟨a,rfl⟩,rfl,_⟩|⟨b,o0,cap,arr,T,fr,fps,rfl,_⟩;exact⟨_,_,_,rfl,rfl⟩;exact⟨_,_,_,rfl,rfl⟩
theorem gr.borrow {v:Value}{x:AC}(r:gr c v x fp)(rt:aw ka):gr c v (x.borrow c.ep rt) []:=by
 cases x with
 |sl fl e xs=>
  cases fl with
  |own tag=>
   simp only[AC.borrow,gr]
   have hh:=JT r.1
   refine⟨df,aX _,hh,λ_=>dW.rep (λb o ho=> .inr ho) r.1,λr' t hp=>?_⟩
   cases rt with
   |none=>simp at hp
   |some r0=>
    cases tag with
    |none=>simp at hp
    |some t0=>
     simp at hp
     obtain⟨_,rfl⟩:=hp
     exact⟨(r.2 t0 rfl).1,(r.2 t0 rfl).2⟩
  |loc ep' pv'=>obtain⟨h1,h2⟩:=r;exact⟨rfl,h2⟩
  |arg _=>exact⟨rfl,r.2⟩
  |nest _ _ _ _ _ _=>exact⟨rfl,r.2⟩
  |part _ _ _ _=>exact⟨rfl,r.2⟩
  |eQ tag i NI=>
   obtain⟨h1,⟨k,hk,h3⟩,h4⟩:=r
   cases NI with
   |none=>exact rfl
   |some NI=>
   simp only[AC.borrow,gr]
   refine⟨df,(h1 NI rfl).1,?_,(h1 NI rfl).2,λr' t hp=>?_⟩
   ·obtain⟨b,o0,cap,arr,T,fr,fps,rfl,_⟩:=h3
    exact⟨_,_,_,rfl,rfl⟩
   ·cases rt with
    |none=>simp at hp
    |some r0=>
     cases tag with
     |none=>simp at hp
     |some t0=>
      simp at hp
      obtain⟨_,rfl⟩:=hp
      exact h4 t0 rfl
 |int k n=>exact⟨r.1,rfl⟩
 |bool b=>exact⟨r.1,rfl⟩
 |str s=>exact⟨r.1,rfl⟩
 |jl=>exact⟨r.1,rfl⟩
 |ptr s off=>exact⟨r.1,r.2.1,rfl⟩
 |fn f=>exact⟨r.1,rfl⟩
 |un=>exact⟨r.1,rfl⟩
 |bot=>exact rfl
 |Cg fl e y i off=>
  cases fl with
  |own tag=>exact r
  |loc ep' pv'=>exact⟨rfl,r.2⟩
  |arg _=>exact⟨rfl,r.2⟩
  |nest _ _ _ _ _ _=>exact r.elim
  |part _ _ _ _=>exact r.elim
  |eQ _ _ _=>exact r.elim
theorem bp.aS:∀{vs:gP}{xs:au AC}{fp:dI},bp c vs xs fp->bp c vs (aS c.ep xs) []
 |[],[],_,_=>rfl
 |_::_,_::_,_,r=>by obtain⟨f1,f2,rfl,r1,r2⟩:=r;exact⟨[],[],rfl,r1.borrow none,bp.aS r2⟩
 |[],_::_,_,r=>r.elim
 |_::_,[],_,r=>r.elim
theorem gr.Zd {v:Value}{x:AC}(r:gr c v (x.borrow c.ep none) []):gr c v (x.borrow 0 none) []:=by
 cases x with
 |sl fl e xs=>cases fl with|own tag=>simp only[AC.borrow,gr]at r⊢;exact⟨df,cC _,r.2.2.1,λ_=>r.2.2.2.1 trivial,λ_ _ hp=>nomatch hp⟩|eQ tag i ep=>cases ep<;>exact r|loc ep pv=>exact r|arg _=>exact r|nest _ _ _ _ _ _=>exact r|part _ _ _ _=>exact r
 |int _ _=>exact r
 |bool _=>exact r
 |str _=>exact r
 |jl=>exact r
 |ptr _ _=>exact r
 |fn _=>exact r
 |un=>exact r
 |bot=>exact r
 |Cg _ _ _ _ _=>exact r
theorem bp.Zd:∀{vs:gP}{xs:au AC}{fp:dI},bp c vs xs fp->bp c vs (Dn.aS 0 xs) []
 |[],[],_,_=>rfl
 |_::_,_::_,_,r=>by obtain⟨f1,f2,rfl,r1,r2⟩:=r;exact⟨[],[],rfl,(r1.borrow none).Zd,bp.Zd r2⟩
 |[],_::_,_,r=>r.elim
 |_::_,[],_,r=>r.elim
theorem bp.borrow (f:Nat->ka):∀{vs:gP}{xs:au AC}{fp:dI}(j:Nat),bp c vs xs fp->bp c vs (ib c.ep f j xs) []
 |[],[],_,_,_=>rfl
 |_::_,_::_,_,j,r=>by obtain⟨f1,f2,rfl,r1,r2⟩:=r;exact⟨[],[],rfl,r1.borrow _,bp.borrow f (j+1) r2⟩
 |[],_::_,_,_,r=>r.elim
 |_::_,[],_,_,r=>r.elim
theorem qu.aS:∀{vs:gP}{xs:au (Bool×au AC)}{fp:dI},fy.qu c vs xs fp->fy.qu c vs (xs.map λx=>(x.1,Dn.aS c.ep x.2)) []
 |[],[],_,_=>rfl
 |_::_,_::_,_,r=>by obtain⟨f1,f2,rfl,⟨vs,hv,r1⟩,r2⟩:=r;exact⟨[],[],rfl,⟨vs,hv,r1.aS⟩,qu.aS r2⟩
 |[],_::_,_,r=>r.elim
 |_::_,[],_,r=>r.elim
theorem fy.aS {v:Value}{x:AV}(r:fy c v x fp):fy c v (x.aS c.ep) []:=by
 cases x with
 |val g cs=>obtain⟨vs,hv,r⟩:=r;exact⟨vs,hv,r.aS⟩
 |vq ts=>obtain⟨ws,hv,r⟩:=r;exact⟨ws,hv,qu.aS r⟩
theorem dk.ahx {w:World}(h:dk C g st a w hs)(t:Nat): fy (cq C g st w) (a.tmps.getD t undef) ((st.get t).borrow st.ep (.slot t)) []:=by obtain⟨fp,hr,_,_⟩:=h.slot t;cases hg:st.get t with|vq ts=>rw[hg]at hr;exact hr.aS|val gg cs=>rw[hg]at hr;obtain⟨vs,hv,hr⟩:=hr;exact⟨vs,hv,bp.borrow (c:=cq C g st w) (.slot t) 0 hr⟩
theorem afc (c:RC)(v:Value):fy c v (ofConst v) []:=by unfold ofConst;split;exact⟨_,rfl,[],[],rfl,⟨rfl,rfl⟩,rfl⟩;exact⟨_,rfl,[],[],rfl,⟨rfl,rfl⟩,rfl⟩;exact⟨_,rfl,[],[],rfl,⟨by simp,rfl⟩,rfl⟩;exact⟨_,rfl,[],[],rfl,⟨rfl,rfl⟩,rfl⟩;exact fy.bot _ _
theorem dk.rd {w:World}(h:dk C g st a w hs)(x:Operand): fy (cq C g st w) (a.eval x) (st.rd x) []:=by cases x with|tmp t=>exact h.ahx t|const v=>exact afc _ v|func f=>exact⟨_,rfl,[],[],rfl,⟨rfl,rfl⟩,rfl⟩|global gl=>exact fy.bot _ _
theorem fw {d:Nat}{v:AV}:(st.put (some d) v).slots=st.slots.set d v:=by simp[AS.put,eJ]
theorem kx {v:AV}:(st.put d v).boxes=st.boxes:=by cases d<;>rfl
theorem KN {v:AV}:(st.put d v).ep=st.ep:=by cases d<;>rfl
theorem S1 {v:AV}:(st.put d v).iss=st.iss:=by cases d<;>rfl
theorem JO {v:AV}:ll (st.put d v)=ll st:=by funext t;simp[ll,S1]
theorem Lh {v:AV}:fX (st.put d v)=fX st:=by funext s;simp[fX,kx]
theorem Kt {d:Nat}{v:Value}(i:Nat):(a.put (some d) v).tmps.getD i undef=if i=d/\d<a.tmps.size then v else a.tmps.getD i undef:=by simp only[Act.put,cG,Array.getElem?_setIfInBounds];by_cases h:d=i;subst h;by_cases hs:d<a.tmps.size<;>simp[hs];simp[h,cD h]
theorem VV {v:Value}:(a.put d v).tmps.size=a.tmps.size:=by cases d<;>simp[Act.put]
theorem NB {v:Value}:(a.put d v).defers=a.defers:=by cases d<;>rfl
end Go.Dn
