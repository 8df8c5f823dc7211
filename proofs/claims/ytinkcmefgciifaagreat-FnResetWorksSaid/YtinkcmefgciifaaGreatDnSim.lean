import Derived.Test.YtinkcmefgciifaaGreatDnRel
/- The relation between an abstract state and the model's frame and memory. -/
namespace Go.Dn
open Go.RowKit
variable {st:AS} {a:Act} {c:RC} {v:Value} {hs:az (Value×AV)} {d:aC Nat} {fp:gk}
inductive lI where
 |slot (i:Nat)|box (s:Nat)|hand (k:Nat)|io
 deriving DecidableEq
structure Gh where
 hw:Nat->Nat
 β:Nat->Nat
 fL:Nat->Option lI
 hdr:Nat->Value
variable {g:Gh}
def oz (st:AS)(t:Nat):Prop:=t%3≠2\/(nth st.iss (t/3/4096)).getD true=true
def ky (st:AS)(s:Nat):Prop:=∃cs,st.boxes[s]?=some (some cs)
structure Fr (M:Nat->Prop) (w w':World):Prop where
 os:w'.os=w.os
 tape:w'.tape=w.tape
 output:w'.output=w.output
 size:w.heap.size<=w'.heap.size
 block:∀b,b<w.heap.size->¬M b->w'.heap[b]?=w.heap[b]?
theorem Fr.refl (M:Nat->Prop)(w:World):Fr M w w:=⟨rfl,rfl,rfl,aX _,λ_ _ _=>rfl⟩
theorem Fr.trans {M M':Nat->Prop}{w w1 w2:World}(h:Fr M w w1)(k:Fr M' w1 w2)(hM:∀b,b<w.heap.size->M' b->M b):Fr M w w2:=⟨k.os.trans h.os,k.tape.trans h.tape,k.output.trans h.output,bH h.size k.size,λb hb hm=>(k.block b (Nat.lt_of_lt_of_le hb h.size) (λm=>hm (hM b hb m))).trans (h.block b hb hm)⟩
theorem Fr.below {w w':World}(h:Fr (λ_=>False) w w'):Below w.heap.size w w':=⟨h.os,h.tape,h.output,h.size,λk hk=>h.block k hk (λm=>m)⟩
structure Ctx where
 A:Rg
 M:Nat->Prop
 w0:World
 ioV:List Value
 hA:∀k b o,A k b o->b<w0.heap.size/\¬M b
variable {C:Ctx}
def dp (C:Ctx)(g:Gh)(st:AS)(w:World):RC:=⟨g.hw,g.β,C.A,g.hdr,oz st,st.ep,ky st,w⟩
def YN (C:Ctx)(g:Gh)(st:AS)(a:Act)(w:World)(i:Nat)(av:AV):Prop:=
 ∃fp,iu (dp C g st w) (a.tmps.getD i undef) av fp/\fp.Nodup/\∀b∈fp,g.fL b=some (.slot i)
def aky (C:Ctx)(g:Gh)(st:AS)(w:World)(s:Nat)(cs:az AC):Prop:=
 ∃arr T fr fp,w.heap[g.β s]?=some (.cells arr T fr)/\rH arr fr/\bT (dp C g st w) arr.toList cs fp/\fp.Nodup/\g.β s∉fp/\
  (∀b∈fp,g.fL b=some (.box s))/\g.fL (g.β s)=some (.box s)/\g.hw (g.β s)=0
def Kv (C:Ctx)(g:Gh)(st:AS)(w:World)(k:Nat)(v:Value)(av:AV):Prop:=
 ∃fp,iu (dp C g st w) v av fp/\fp.Nodup/\∀b∈fp,g.fL b=some (.hand k)
structure eX (C:Ctx) (g:Gh) (st:AS) (a:Act) (w:World) (hs:List (Value×AV)):Prop where
 defers:a.defers=[]
 size:a.tmps.size=st.slots.length
 bsize:st.boxes.length=st.slots.length
 slots:∀i av,st.slots[i]?=some av->YN C g st a w i av
 boxes:∀s cs,st.boxes[s]?=some (some cs)->aky C g st w s cs
 hands:∀k v av,hs[k]?=some (v,av)->Kv C g st w k v av
 iw:∀b x,g.fL b=some x->b<w.heap.size/\(C.w0.heap.size<=b\/C.M b)
 frame:Fr C.M C.w0 w
 io:∃fp,bT (dp C g st w) C.ioV st.io fp/\fp.Nodup/\∀b∈fp,g.fL b=some .io
def pT (C:Ctx)(st:AS)(a:Act)(w:World):Prop:=∃g,eX C g st a w []
theorem eX.Pn {w:World}(h:eX C g st a w hs){b:Nat}{x:lI}(hx:g.fL b=some x)(k:Bool)(o:Nat):¬C.A k b o:=by intro hA;have h1:=C.hA k b o hA;rcases(h.iw b x hx).2 with h2|h2;omega;exact h1.2 h2
theorem eX.step {g':Gh}{cc:AS}{a':Act}{w w':World}{Af:az (Value×AV)}(h:eX C g st a w hs)(Kp:lI->Prop)(hle:(dp C g st w).Le (dp C g' cc w'))(asj:a'.defers=[])(wq:a'.tmps.size=cc.slots.length)(asi:cc.boxes.length=cc.slots.length)(kB:Fr C.M C.w0 w')(FZ:∀b x,g'.fL b=some x->b<w'.heap.size/\(C.w0.heap.size<=b\/C.M b))(uy:∀b x,Kp x->g.fL b=some x->g'.fL b=some x/\w'.heap[b]?=w.heap[b]?/\g'.hw b=g.hw b)(O3:∀i av,cc.slots[i]?=some av-> (Kp (.slot i)/\st.slots[i]?=some av/\a'.tmps.getD i undef=a.tmps.getD i undef)\/YN C g' cc a' w' i av)(vE:∀s cs,cc.boxes[s]?=some (some cs)-> (Kp (.box s)/\st.boxes[s]?=some (some cs)/\g'.β s=g.β s)\/aky C g' cc w' s cs)(alL:∀k v av,Af[k]?=some (v,av)-> (Kp (.hand k)/\hs[k]?=some (v,av))\/Kv C g' cc w' k v av)(Q1:(Kp .io/\cc.io=st.io)\/∃fp,bT (dp C g' cc w') C.ioV cc.io fp/\fp.Nodup/\∀b∈fp,g'.fL b=some .io): eX C g' cc a' w' Af:=by refine⟨asj,wq,asi,λi av hi=>?_,λs cs hs=>?_,λk v av hk=>?_,FZ,kB,?_⟩;rotate_right;rcases Q1 with⟨kp,h1⟩|h1;obtain⟨fp,hr,hn,hl⟩:=h.io;refine⟨fp,?_,hn,λb hb=>(uy b _ kp (hl b hb)).1⟩;rw[h1];exact hr.mono hle (λb hb=>(uy b _ kp (hl b hb)).2);exact h1;rcases O3 i av hi with⟨kp,h1,h2⟩|h1;obtain⟨fp,hr,hn,hl⟩:=h.slots i av h1;refine⟨fp,?_,hn,λb hb=>(uy b _ kp (hl b hb)).1⟩;rw[h2];exact hr.mono hle (λb hb=>(uy b _ kp (hl b hb)).2);exact h1;rcases vE s cs hs with⟨kp,h1,h2⟩|h1;obtain⟨arr,T,fr,fp,hb,uj,hr,hn,hni,hl,IE,IH⟩:=h.boxes s cs h1;have hk0:=uy _ _ kp IE;rw[<-h2]at hk0 hb hni IH;exact⟨arr,T,fr,fp,hk0.2.1.trans hb,uj,hr.mono hle (λb hb=>(uy b _ kp (hl b hb)).2),hn,hni,λb hb=>(uy b _ kp (hl b hb)).1,hk0.1,hk0.2.2.trans IH⟩;exact h1;rcases alL k v av hk with⟨kp,h1⟩|h1;obtain⟨fp,hr,hn,hl⟩:=h.hands k v av h1;exact⟨fp,hr.mono hle (λb hb=>(uy b _ kp (hl b hb)).2),hn,λb hb=>(uy b _ kp (hl b hb)).1⟩;exact h1
theorem get_eq {i:Nat}{av:AV}(h:st.slots[i]?=some av):st.get i=av:=by simp[AS.get,eT,h]
theorem iu.bot (c:RC)(v:Value):iu c v .bot []:=⟨[v],by simp[Cut],[],[],rfl,rfl,rfl⟩
theorem eX.slot {w:World}(h:eX C g st a w hs)(i:Nat): YN C g st a w i (st.get i):=by
 by_cases hi:i<st.slots.length;have:=aq hi;rw[get_eq this];exact h.slots i _ this;have:st.get i=.bot:=by simp[AS.get,eT,bS (Nat.le_of_not_lt hi)]
 rw[this];exact⟨[],iu.bot _ _,by simp,by simp⟩
theorem PG {hw:Nat->Nat}{w:World}{e:CT}{xs:az e.D}(h:gG hw w (.sl e) [v] xs fp):∃o n k,v=.slice o n k/\n=xs.length:=by obtain⟨u,hu,h⟩:=h;simp at hu;subst hu;rcases h with⟨⟨a,rfl⟩,rfl,_⟩|⟨b,o0,cap,arr,T,fr,fps,rfl,_⟩;exact⟨_,_,_,rfl,rfl⟩;exact⟨_,_,_,rfl,rfl⟩
theorem jh.borrow {x:AC}(r:jh c v x fp)(rt:aC mq):jh c v (x.borrow c.ep rt) []:=by
 cases x with
 |sl fl e xs=>
  cases fl with
  |own tag=>
   simp only[AC.borrow,jh]
   have hh:=PG r.1
   refine⟨cM,aX _,hh,λ_=>gG.rep (λb o ho=> .inr ho) r.1,λr' t hp=>?_⟩
   cases rt with
   |none=>simp at hp
   |some r0=>
    cases tag with
    |none=>simp at hp
    |some t0=>
     simp at hp
     obtain⟨_,rfl⟩:=hp
     exact⟨(r.2 t0 rfl).1,(r.2 t0 rfl).2⟩
  |loc ep' pv'=>obtain⟨h1,h2⟩:=r;exact⟨rfl,h2⟩
  |arg _=>exact⟨rfl,r.2⟩
  |nest _ _ _ _ _ _=>exact⟨rfl,r.2⟩
  |part _ _ _ _=>exact⟨rfl,r.2⟩
  |gH tag i Ol=>
   obtain⟨h1,⟨k,hk,h3⟩,h4⟩:=r
   cases Ol with
   |none=>exact rfl
   |some Ol=>
   simp only[AC.borrow,jh]
   refine⟨cM,(h1 Ol rfl).1,?_,(h1 Ol rfl).2,λr' t hp=>?_⟩
   ·obtain⟨b,o0,cap,arr,T,fr,fps,rfl,_⟩:=h3
    exact⟨_,_,_,rfl,rfl⟩
   ·cases rt with
    |none=>simp at hp
    |some r0=>
     cases tag with
     |none=>simp at hp
     |some t0=>
      simp at hp
      obtain⟨_,rfl⟩:=hp
      exact h4 t0 rfl
 |int k n=>exact⟨r.1,rfl⟩
 |bool b=>exact⟨r.1,rfl⟩
 |str s=>exact⟨r.1,rfl⟩
 |lj=>exact⟨r.1,rfl⟩
 |ptr s off=>exact⟨r.1,r.2.1,rfl⟩
 |fn f=>exact⟨r.1,rfl⟩
 |un=>exact⟨r.1,rfl⟩
 |bot=>exact rfl
 |C5 fl e y i off=>
  cases fl with
  |own tag=>exact r
  |loc ep' pv'=>exact⟨rfl,r.2⟩
  |arg _=>exact⟨rfl,r.2⟩
  |nest _ _ _ _ _ _=>exact r.elim
  |part _ _ _ _=>exact r.elim
  |gH _ _ _=>exact r.elim
theorem bT.bg:∀{vs:jT}{xs:az AC}{fp:gk},bT c vs xs fp->bT c vs (bg c.ep xs) []
 |[],[],_,_=>rfl
 |_::_,_::_,_,r=>by obtain⟨f1,f2,rfl,r1,r2⟩:=r;exact⟨[],[],rfl,r1.borrow none,bT.bg r2⟩
 |[],_::_,_,r=>r.elim
 |_::_,[],_,r=>r.elim
theorem jh.abH {x:AC}(r:jh c v (x.borrow c.ep none) []):jh c v (x.borrow 0 none) []:=by
 cases x with
 |sl fl e xs=>cases fl with|own tag=>simp only[AC.borrow,jh]at r⊢;exact⟨cM,bM _,r.2.2.1,λ_=>r.2.2.2.1 trivial,λ_ _ hp=>nomatch hp⟩|gH tag i ep=>cases ep<;>exact r|loc ep pv=>exact r|arg _=>exact r|nest _ _ _ _ _ _=>exact r|part _ _ _ _=>exact r
 |int _ _=>exact r
 |bool _=>exact r
 |str _=>exact r
 |lj=>exact r
 |ptr _ _=>exact r
 |fn _=>exact r
 |un=>exact r
 |bot=>exact r
 |C5 _ _ _ _ _=>exact r
theorem bT.abH:∀{vs:jT}{xs:az AC}{fp:gk},bT c vs xs fp->bT c vs (Dn.bg 0 xs) []
 |[],[],_,_=>rfl
 |_::_,_::_,_,r=>by obtain⟨f1,f2,rfl,r1,r2⟩:=r;exact⟨[],[],rfl,(r1.borrow none).abH,bT.abH r2⟩
 |[],_::_,_,r=>r.elim
 |_::_,[],_,r=>r.elim
theorem bT.borrow (f:Nat->mq):∀{vs:jT}{xs:az AC}{fp:gk}(j:Nat),bT c vs xs fp->bT c vs (jK c.ep f j xs) []
 |[],[],_,_,_=>rfl
 |_::_,_::_,_,j,r=>by obtain⟨f1,f2,rfl,r1,r2⟩:=r;exact⟨[],[],rfl,r1.borrow _,bT.borrow f (j+1) r2⟩
 |[],_::_,_,_,r=>r.elim
 |_::_,[],_,_,r=>r.elim
theorem sD.bg:∀{vs:jT}{xs:az (Bool×az AC)}{fp:gk},iu.sD c vs xs fp->iu.sD c vs (xs.map λx=>(x.1,Dn.bg c.ep x.2)) []
 |[],[],_,_=>rfl
 |_::_,_::_,_,r=>by obtain⟨f1,f2,rfl,⟨vs,hv,r1⟩,r2⟩:=r;exact⟨[],[],rfl,⟨vs,hv,r1.bg⟩,sD.bg r2⟩
 |[],_::_,_,r=>r.elim
 |_::_,[],_,r=>r.elim
theorem iu.bg {x:AV}(r:iu c v x fp):iu c v (x.bg c.ep) []:=by
 cases x with
 |val g cs=>obtain⟨vs,hv,r⟩:=r;exact⟨vs,hv,r.bg⟩
 |xN ts=>obtain⟨ws,hv,r⟩:=r;exact⟨ws,hv,sD.bg r⟩
theorem eX.amO {w:World}(h:eX C g st a w hs)(t:Nat): iu (dp C g st w) (a.tmps.getD t undef) ((st.get t).borrow st.ep (.slot t)) []:=by obtain⟨fp,hr,_,_⟩:=h.slot t;cases hg:st.get t with|xN ts=>rw[hg]at hr;exact hr.bg|val gg cs=>rw[hg]at hr;obtain⟨vs,hv,hr⟩:=hr;exact⟨vs,hv,bT.borrow (c:=dp C g st w) (.slot t) 0 hr⟩
theorem ajl (c:RC)(v:Value):iu c v (ofConst v) []:=by unfold ofConst;split;exact⟨_,rfl,[],[],rfl,⟨rfl,rfl⟩,rfl⟩;exact⟨_,rfl,[],[],rfl,⟨rfl,rfl⟩,rfl⟩;exact⟨_,rfl,[],[],rfl,⟨by simp,rfl⟩,rfl⟩;exact⟨_,rfl,[],[],rfl,⟨rfl,rfl⟩,rfl⟩;exact iu.bot _ _
theorem eX.rd {w:World}(h:eX C g st a w hs)(x:Operand): iu (dp C g st w) (a.eval x) (st.rd x) []:=by cases x with|tmp t=>exact h.amO t|const v=>exact ajl _ v|func f=>exact⟨_,rfl,[],[],rfl,⟨rfl,rfl⟩,rfl⟩|global gl=>exact iu.bot _ _
theorem gW {d:Nat}{v:AV}:(st.put (some d) v).slots=st.slots.set d v:=by simp[AS.put,gL]
theorem mr {v:AV}:(st.put d v).boxes=st.boxes:=by cases d<;>rfl
theorem KG {v:AV}:(st.put d v).ep=st.ep:=by cases d<;>rfl
theorem UA {v:AV}:(st.put d v).iss=st.iss:=by cases d<;>rfl
theorem JC {v:AV}:oz (st.put d v)=oz st:=by funext t;simp[oz,UA]
theorem Lm {v:AV}:ky (st.put d v)=ky st:=by funext s;simp[ky,mr]
theorem Kj {d:Nat}(i:Nat):(a.put (some d) v).tmps.getD i undef=if i=d/\d<a.tmps.size then v else a.tmps.getD i undef:=by simp only[Act.put,dX,Array.getElem?_setIfInBounds];by_cases h:d=i;subst h;by_cases hs:d<a.tmps.size<;>simp[hs];simp[h,cd h]
theorem X2:(a.put d v).tmps.size=a.tmps.size:=by cases d<;>simp[Act.put]
theorem Of:(a.put d v).defers=a.defers:=by cases d<;>rfl
end Go.Dn
