import Derived.Test.YtbebkmajekhclaaGreatDnRel
/- The relation between an abstract state and the model's frame and memory. -/
namespace Go.Dn
open Go.RowKit
variable {st:AS} {a:Act} {c:RC} {v:Value} {hs:aw (Value×AV)} {d:aB Nat} {fp:fM}
inductive lz where
 |slot (i:Nat)|box (s:Nat)|hand (k:Nat)|io
 deriving DecidableEq
structure Gh where
 hw:Nat->Nat
 β:Nat->Nat
 fE:Nat->Option lz
 hdr:Nat->Value
variable {g:Gh}
def oA (st:AS)(t:Nat):Prop:=t%3≠2\/(nth st.iss (t/3/4096)).getD true=true
def ku (st:AS)(s:Nat):Prop:=∃cs,st.boxes[s]?=some (some cs)
structure Fr (M:Nat->Prop) (w w':World):Prop where
 os:w'.os=w.os
 tape:w'.tape=w.tape
 output:w'.output=w.output
 size:w.heap.size<=w'.heap.size
 block:∀b,b<w.heap.size->¬M b->w'.heap[b]?=w.heap[b]?
theorem Fr.refl (M:Nat->Prop)(w:World):Fr M w w:=⟨rfl,rfl,rfl,bc _,λ_ _ _=>rfl⟩
theorem Fr.trans {M M':Nat->Prop}{w w1 w2:World}(h:Fr M w w1)(k:Fr M' w1 w2)(hM:∀b,b<w.heap.size->M' b->M b):Fr M w w2:=⟨k.os.trans h.os,k.tape.trans h.tape,k.output.trans h.output,bq h.size k.size,λb hb hm=>(k.block b (Nat.lt_of_lt_of_le hb h.size) (λm=>hm (hM b hb m))).trans (h.block b hb hm)⟩
theorem Fr.below {w w':World}(h:Fr (λ_=>False) w w'):Below w.heap.size w w':=⟨h.os,h.tape,h.output,h.size,λk hk=>h.block k hk (λm=>m)⟩
structure Ctx where
 A:Rg
 M:Nat->Prop
 w0:World
 ioV:List Value
 hA:∀k b o,A k b o->b<w0.heap.size/\¬M b
variable {C:Ctx}
def dz (C:Ctx)(g:Gh)(st:AS)(w:World):RC:=⟨g.hw,g.β,C.A,g.hdr,oA st,st.ep,ku st,w⟩
def abD (C:Ctx)(g:Gh)(st:AS)(a:Act)(w:World)(i:Nat)(av:AV):Prop:=
 ∃fp,il (dz C g st w) (a.tmps.getD i undef) av fp/\fp.Nodup/\∀b∈fp,g.fE b=some (.slot i)
def aoB (C:Ctx)(g:Gh)(st:AS)(w:World)(s:Nat)(cs:aw AC):Prop:=
 ∃arr T fr fp,w.heap[g.β s]?=some (.cells arr T fr)/\rU arr fr/\bV (dz C g st w) arr.toList cs fp/\fp.Nodup/\g.β s∉fp/\
  (∀b∈fp,g.fE b=some (.box s))/\g.fE (g.β s)=some (.box s)/\g.hw (g.β s)=0
def L2 (C:Ctx)(g:Gh)(st:AS)(w:World)(k:Nat)(v:Value)(av:AV):Prop:=
 ∃fp,il (dz C g st w) v av fp/\fp.Nodup/\∀b∈fp,g.fE b=some (.hand k)
structure fb (C:Ctx) (g:Gh) (st:AS) (a:Act) (w:World) (hs:List (Value×AV)):Prop where
 defers:a.defers=[]
 size:a.tmps.size=st.slots.length
 bsize:st.boxes.length=st.slots.length
 slots:∀i av,st.slots[i]?=some av->abD C g st a w i av
 boxes:∀s cs,st.boxes[s]?=some (some cs)->aoB C g st w s cs
 hands:∀k v av,hs[k]?=some (v,av)->L2 C g st w k v av
 im:∀b x,g.fE b=some x->b<w.heap.size/\(C.w0.heap.size<=b\/C.M b)
 frame:Fr C.M C.w0 w
 io:∃fp,bV (dz C g st w) C.ioV st.io fp/\fp.Nodup/\∀b∈fp,g.fE b=some .io
def qe (C:Ctx)(st:AS)(a:Act)(w:World):Prop:=∃g,fb C g st a w []
theorem fb.Re {w:World}(h:fb C g st a w hs){b:Nat}{x:lz}(hx:g.fE b=some x)(k:Bool)(o:Nat):¬C.A k b o:=by intro hA;have h1:=C.hA k b o hA;rcases(h.im b x hx).2 with h2|h2;omega;exact h1.2 h2
theorem fb.step {g':Gh}{cj:AS}{a':Act}{w w':World}{yL:aw (Value×AV)}(h:fb C g st a w hs)(Kp:lz->Prop)(hle:(dz C g st w).Le (dz C g' cj w'))(axe:a'.defers=[])(wI:a'.tmps.size=cj.slots.length)(axd:cj.boxes.length=cj.slots.length)(jZ:Fr C.M C.w0 w')(GR:∀b x,g'.fE b=some x->b<w'.heap.size/\(C.w0.heap.size<=b\/C.M b))(vj:∀b x,Kp x->g.fE b=some x->g'.fE b=some x/\w'.heap[b]?=w.heap[b]?/\g'.hw b=g.hw b)(QS:∀i av,cj.slots[i]?=some av-> (Kp (.slot i)/\st.slots[i]?=some av/\a'.tmps.getD i undef=a.tmps.getD i undef)\/abD C g' cj a' w' i av)(wH:∀s cs,cj.boxes[s]?=some (some cs)-> (Kp (.box s)/\st.boxes[s]?=some (some cs)/\g'.β s=g.β s)\/aoB C g' cj w' s cs)(ap9:∀k v av,yL[k]?=some (v,av)-> (Kp (.hand k)/\hs[k]?=some (v,av))\/L2 C g' cj w' k v av)(S3:(Kp .io/\cj.io=st.io)\/∃fp,bV (dz C g' cj w') C.ioV cj.io fp/\fp.Nodup/\∀b∈fp,g'.fE b=some .io): fb C g' cj a' w' yL:=by refine⟨axe,wI,axd,λi av hi=>?_,λs cs hs=>?_,λk v av hk=>?_,GR,jZ,?_⟩;rotate_right;rcases S3 with⟨kp,h1⟩|h1;obtain⟨fp,hr,hn,hl⟩:=h.io;refine⟨fp,?_,hn,λb hb=>(vj b _ kp (hl b hb)).1⟩;rw[h1];exact hr.mono hle (λb hb=>(vj b _ kp (hl b hb)).2);exact h1;rcases QS i av hi with⟨kp,h1,h2⟩|h1;obtain⟨fp,hr,hn,hl⟩:=h.slots i av h1;refine⟨fp,?_,hn,λb hb=>(vj b _ kp (hl b hb)).1⟩;rw[h2];exact hr.mono hle (λb hb=>(vj b _ kp (hl b hb)).2);exact h1;rcases wH s cs hs with⟨kp,h1,h2⟩|h1;obtain⟨arr,T,fr,fp,hb,uR,hr,hn,hni,hl,J2,J5⟩:=h.boxes s cs h1;have hk0:=vj _ _ kp J2;rw[<-h2]at hk0 hb hni J5;exact⟨arr,T,fr,fp,hk0.2.1.trans hb,uR,hr.mono hle (λb hb=>(vj b _ kp (hl b hb)).2),hn,hni,λb hb=>(vj b _ kp (hl b hb)).1,hk0.1,hk0.2.2.trans J5⟩;exact h1;rcases ap9 k v av hk with⟨kp,h1⟩|h1;obtain⟨fp,hr,hn,hl⟩:=h.hands k v av h1;exact⟨fp,hr.mono hle (λb hb=>(vj b _ kp (hl b hb)).2),hn,λb hb=>(vj b _ kp (hl b hb)).1⟩;exact h1
theorem get_eq {i:Nat}{av:AV}(h:st.slots[i]?=some av):st.get i=av:=by simp[AS.get,eU,h]
theorem il.bot (c:RC)(v:Value):il c v .bot []:=⟨[v],by simp[Cut],[],[],rfl,rfl,rfl⟩
theorem fb.slot {w:World}(h:fb C g st a w hs)(i:Nat): abD C g st a w i (st.get i):=by
 by_cases hi:i<st.slots.length;have:=al hi;rw[get_eq this];exact h.slots i _ this;have:st.get i=.bot:=by simp[AS.get,eU,bI (Nat.le_of_not_lt hi)]
 rw[this];exact⟨[],il.bot _ _,by simp,by simp⟩
theorem Rx {hw:Nat->Nat}{w:World}{e:CT}{xs:aw e.D}(h:gA hw w (.sl e) [v] xs fp):∃o n k,v=.slice o n k/\n=xs.length:=by obtain⟨u,hu,h⟩:=h;simp at hu;subst hu;rcases h with⟨⟨a,rfl⟩,rfl,_⟩|⟨b,o0,cap,arr,T,fr,fps,rfl,_⟩;exact⟨_,_,_,rfl,rfl⟩;exact⟨_,_,_,rfl,rfl⟩
theorem iV.borrow {x:AC}(r:iV c v x fp)(rt:aB mi):iV c v (x.borrow c.ep rt) []:=by
 cases x with
 |sl fl e xs=>
  cases fl with
  |own tag=>
   simp only[AC.borrow,iV]
   have hh:=Rx r.1
   refine⟨cG,bc _,hh,λ_=>gA.rep (λb o ho=> .inr ho) r.1,λr' t hp=>?_⟩
   cases rt with
   |none=>simp at hp
   |some r0=>
    cases tag with
    |none=>simp at hp
    |some t0=>
     simp at hp
     obtain⟨_,rfl⟩:=hp
     exact⟨(r.2 t0 rfl).1,(r.2 t0 rfl).2⟩
  |loc ep' pv'=>obtain⟨h1,h2⟩:=r;exact⟨rfl,h2⟩
  |arg _=>exact⟨rfl,r.2⟩
  |nest _ _ _ _ _ _=>exact⟨rfl,r.2⟩
  |part _ _ _ _=>exact⟨rfl,r.2⟩
  |gB tag i Qb=>
   obtain⟨h1,⟨k,hk,h3⟩,h4⟩:=r
   cases Qb with
   |none=>exact rfl
   |some Qb=>
   simp only[AC.borrow,iV]
   refine⟨cG,(h1 Qb rfl).1,?_,(h1 Qb rfl).2,λr' t hp=>?_⟩
   ·obtain⟨b,o0,cap,arr,T,fr,fps,rfl,_⟩:=h3
    exact⟨_,_,_,rfl,rfl⟩
   ·cases rt with
    |none=>simp at hp
    |some r0=>
     cases tag with
     |none=>simp at hp
     |some t0=>
      simp at hp
      obtain⟨_,rfl⟩:=hp
      exact h4 t0 rfl
 |int k n=>exact⟨r.1,rfl⟩
 |bool b=>exact⟨r.1,rfl⟩
 |str s=>exact⟨r.1,rfl⟩
 |kY=>exact⟨r.1,rfl⟩
 |ptr s off=>exact⟨r.1,r.2.1,rfl⟩
 |fn f=>exact⟨r.1,rfl⟩
 |un=>exact⟨r.1,rfl⟩
 |bot=>exact rfl
 |D3 fl e y i off=>
  cases fl with
  |own tag=>exact r
  |loc ep' pv'=>exact⟨rfl,r.2⟩
  |arg _=>exact⟨rfl,r.2⟩
  |nest _ _ _ _ _ _=>exact r.elim
  |part _ _ _ _=>exact r.elim
  |gB _ _ _=>exact r.elim
theorem bV.bg:∀{vs:jJ}{xs:aw AC}{fp:fM},bV c vs xs fp->bV c vs (bg c.ep xs) []
 |[],[],_,_=>rfl
 |_::_,_::_,_,r=>by obtain⟨f1,f2,rfl,r1,r2⟩:=r;exact⟨[],[],rfl,r1.borrow none,bV.bg r2⟩
 |[],_::_,_,r=>r.elim
 |_::_,[],_,r=>r.elim
theorem iV.aeM {x:AC}(r:iV c v (x.borrow c.ep none) []):iV c v (x.borrow 0 none) []:=by
 cases x with
 |sl fl e xs=>cases fl with|own tag=>simp only[AC.borrow,iV]at r⊢;exact⟨cG,cd _,r.2.2.1,λ_=>r.2.2.2.1 trivial,λ_ _ hp=>nomatch hp⟩|gB tag i ep=>cases ep<;>exact r|loc ep pv=>exact r|arg _=>exact r|nest _ _ _ _ _ _=>exact r|part _ _ _ _=>exact r
 |int _ _=>exact r
 |bool _=>exact r
 |str _=>exact r
 |kY=>exact r
 |ptr _ _=>exact r
 |fn _=>exact r
 |un=>exact r
 |bot=>exact r
 |D3 _ _ _ _ _=>exact r
theorem bV.aeM:∀{vs:jJ}{xs:aw AC}{fp:fM},bV c vs xs fp->bV c vs (Dn.bg 0 xs) []
 |[],[],_,_=>rfl
 |_::_,_::_,_,r=>by obtain⟨f1,f2,rfl,r1,r2⟩:=r;exact⟨[],[],rfl,(r1.borrow none).aeM,bV.aeM r2⟩
 |[],_::_,_,r=>r.elim
 |_::_,[],_,r=>r.elim
theorem bV.borrow (f:Nat->mi):∀{vs:jJ}{xs:aw AC}{fp:fM}(j:Nat),bV c vs xs fp->bV c vs (jz c.ep f j xs) []
 |[],[],_,_,_=>rfl
 |_::_,_::_,_,j,r=>by obtain⟨f1,f2,rfl,r1,r2⟩:=r;exact⟨[],[],rfl,r1.borrow _,bV.borrow f (j+1) r2⟩
 |[],_::_,_,_,r=>r.elim
 |_::_,[],_,_,r=>r.elim
theorem sQ.bg:∀{vs:jJ}{xs:aw (Bool×aw AC)}{fp:fM},il.sQ c vs xs fp->il.sQ c vs (xs.map λx=>(x.1,Dn.bg c.ep x.2)) []
 |[],[],_,_=>rfl
 |_::_,_::_,_,r=>by obtain⟨f1,f2,rfl,⟨vs,hv,r1⟩,r2⟩:=r;exact⟨[],[],rfl,⟨vs,hv,r1.bg⟩,sQ.bg r2⟩
 |[],_::_,_,r=>r.elim
 |_::_,[],_,r=>r.elim
theorem il.bg {x:AV}(r:il c v x fp):il c v (x.bg c.ep) []:=by
 cases x with
 |val g cs=>obtain⟨vs,hv,r⟩:=r;exact⟨vs,hv,r.bg⟩
 |yE ts=>obtain⟨ws,hv,r⟩:=r;exact⟨ws,hv,sQ.bg r⟩
theorem fb.arj {w:World}(h:fb C g st a w hs)(t:Nat): il (dz C g st w) (a.tmps.getD t undef) ((st.get t).borrow st.ep (.slot t)) []:=by obtain⟨fp,hr,_,_⟩:=h.slot t;cases hg:st.get t with|yE ts=>rw[hg]at hr;exact hr.bg|val gg cs=>rw[hg]at hr;obtain⟨vs,hv,hr⟩:=hr;exact⟨vs,hv,bV.borrow (c:=dz C g st w) (.slot t) 0 hr⟩
theorem anl (c:RC)(v:Value):il c v (ofConst v) []:=by unfold ofConst;split;exact⟨_,rfl,[],[],rfl,⟨rfl,rfl⟩,rfl⟩;exact⟨_,rfl,[],[],rfl,⟨rfl,rfl⟩,rfl⟩;exact⟨_,rfl,[],[],rfl,⟨by simp,rfl⟩,rfl⟩;exact⟨_,rfl,[],[],rfl,⟨rfl,rfl⟩,rfl⟩;exact il.bot _ _
theorem fb.rd {w:World}(h:fb C g st a w hs)(x:Operand): il (dz C g st w) (a.eval x) (st.rd x) []:=by cases x with|tmp t=>exact h.arj t|const v=>exact anl _ v|func f=>exact⟨_,rfl,[],[],rfl,⟨rfl,rfl⟩,rfl⟩|global gl=>exact il.bot _ _
theorem gV {d:Nat}{v:AV}:(st.put (some d) v).slots=st.slots.set d v:=by simp[AS.put,gH]
theorem mj {v:AV}:(st.put d v).boxes=st.boxes:=by cases d<;>rfl
theorem Mf {v:AV}:(st.put d v).ep=st.ep:=by cases d<;>rfl
theorem W7 {v:AV}:(st.put d v).iss=st.iss:=by cases d<;>rfl
theorem K5 {v:AV}:oA (st.put d v)=oA st:=by funext t;simp[oA,W7]
theorem MY {v:AV}:ku (st.put d v)=ku st:=by funext s;simp[ku,mj]
theorem LR {d:Nat}(i:Nat):(a.put (some d) v).tmps.getD i undef=if i=d/\d<a.tmps.size then v else a.tmps.getD i undef:=by simp only[Act.put,eD,Array.getElem?_setIfInBounds];by_cases h:d=i;subst h;by_cases hs:d<a.tmps.size<;>simp[hs];simp[h,cl h]
theorem aa3:(a.put d v).tmps.size=a.tmps.size:=by cases d<;>simp[Act.put]
theorem P6:(a.put d v).defers=a.defers:=by cases d<;>rfl
end Go.Dn
