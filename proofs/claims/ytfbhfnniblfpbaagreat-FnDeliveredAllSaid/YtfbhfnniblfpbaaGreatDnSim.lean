import Derived.Test.YtfbhfnniblfpbaaGreatDnRel
/- The relation between an abstract state and the model's frame and memory. -/
namespace Go.Dn
open Go.RowKit
variable {st:AS} {a:Act} {c:RC} {hs:au (Value×AV)} {d:ax Nat} {fp:eo}
inductive jI where
 |slot (i:Nat)|box (s:Nat)|hand (k:Nat)|io
 deriving DecidableEq
structure Gh where
 hw:Nat->Nat
 β:Nat->Nat
 ej:Nat->Option jI
 hdr:Nat->Value
variable {g:Gh}
def mX (st:AS)(t:Nat):Prop:=t%3≠2\/(nth st.iss (t/3/4096)).getD true=true
def jm (st:AS)(s:Nat):Prop:=∃cs,st.boxes[s]?=some (some cs)
structure Fr (M:Nat->Prop) (w w':World):Prop where
 os:w'.os=w.os
 tape:w'.tape=w.tape
 output:w'.output=w.output
 size:w.heap.size<=w'.heap.size
 block:∀b,b<w.heap.size->¬M b->w'.heap[b]?=w.heap[b]?
theorem Fr.refl (M:Nat->Prop)(w:World):Fr M w w:=⟨rfl,rfl,rfl,aU _,λ_ _ _=>rfl⟩
theorem Fr.trans {M M':Nat->Prop}{w w1 w2:World}(h:Fr M w w1)(k:Fr M' w1 w2)(hM:∀b,b<w.heap.size->M' b->M b):Fr M w w2:=⟨k.os.trans h.os,k.tape.trans h.tape,k.output.trans h.output,aP h.size k.size,λb hb hm=>(k.block b (Nat.lt_of_lt_of_le hb h.size) (λm=>hm (hM b hb m))).trans (h.block b hb hm)⟩
theorem Fr.below {w w':World}(h:Fr (λ_=>False) w w'):Below w.heap.size w w':=⟨h.os,h.tape,h.output,h.size,λk hk=>h.block k hk (λm=>m)⟩
structure Ctx where
 A:Rg
 M:Nat->Prop
 w0:World
 ioV:List Value
 hA:∀k b o,A k b o->b<w0.heap.size/\¬M b
variable {C:Ctx}
def cQ (C:Ctx)(g:Gh)(st:AS)(w:World):RC:=⟨g.hw,g.β,C.A,g.hdr,mX st,st.ep,jm st,w⟩
def WG (C:Ctx)(g:Gh)(st:AS)(a:Act)(w:World)(i:Nat)(av:AV):Prop:=
 ∃fp,fF (cQ C g st w) (a.tmps.getD i undef) av fp/\fp.Nodup/\∀b∈fp,g.ej b=some (.slot i)
def agn (C:Ctx)(g:Gh)(st:AS)(w:World)(s:Nat)(cs:au AC):Prop:=
 ∃arr T fr fp,w.heap[g.β s]?=some (.cells arr T fr)/\qw arr fr/\bE (cQ C g st w) arr.toList cs fp/\fp.Nodup/\g.β s∉fp/\
  (∀b∈fp,g.ej b=some (.box s))/\g.ej (g.β s)=some (.box s)/\g.hw (g.β s)=0
def J5 (C:Ctx)(g:Gh)(st:AS)(w:World)(k:Nat)(v:Value)(av:AV):Prop:=
 ∃fp,fF (cQ C g st w) v av fp/\fp.Nodup/\∀b∈fp,g.ej b=some (.hand k)
structure dN (C:Ctx) (g:Gh) (st:AS) (a:Act) (w:World) (hs:List (Value×AV)):Prop where
 defers:a.defers=[]
 size:a.tmps.size=st.slots.length
 bsize:st.boxes.length=st.slots.length
 slots:∀i av,st.slots[i]?=some av->WG C g st a w i av
 boxes:∀s cs,st.boxes[s]?=some (some cs)->agn C g st w s cs
 hands:∀k v av,hs[k]?=some (v,av)->J5 C g st w k v av
 fR:∀b x,g.ej b=some x->b<w.heap.size/\(C.w0.heap.size<=b\/C.M b)
 frame:Fr C.M C.w0 w
 io:∃fp,bE (cQ C g st w) C.ioV st.io fp/\fp.Nodup/\∀b∈fp,g.ej b=some .io
def oz (C:Ctx)(st:AS)(a:Act)(w:World):Prop:=∃g,dN C g st a w []
theorem dN.NY {w:World}(h:dN C g st a w hs){b:Nat}{x:jI}(hx:g.ej b=some x)(k:Bool)(o:Nat):¬C.A k b o:=by intro hA;have h1:=C.hA k b o hA;rcases(h.fR b x hx).2 with h2|h2;omega;exact h1.2 h2
theorem dN.step {g':Gh}{bM:AS}{a':Act}{w w':World}{uo:au (Value×AV)}(h:dN C g st a w hs)(Kp:jI->Prop)(hle:(cQ C g st w).Le (cQ C g' bM w'))(aoe:a'.defers=[])(uq:a'.tmps.size=bM.slots.length)(aod:bM.boxes.length=bM.slots.length)(jz:Fr C.M C.w0 w')(EX:∀b x,g'.ej b=some x->b<w'.heap.size/\(C.w0.heap.size<=b\/C.M b))(tH:∀b x,Kp x->g.ej b=some x->g'.ej b=some x/\w'.heap[b]?=w.heap[b]?/\g'.hw b=g.hw b)(NJ:∀i av,bM.slots[i]?=some av-> (Kp (.slot i)/\st.slots[i]?=some av/\a'.tmps.getD i undef=a.tmps.getD i undef)\/WG C g' bM a' w' i av)(uZ:∀s cs,bM.boxes[s]?=some (some cs)-> (Kp (.box s)/\st.boxes[s]?=some (some cs)/\g'.β s=g.β s)\/agn C g' bM w' s cs)(aha:∀k v av,uo[k]?=some (v,av)-> (Kp (.hand k)/\hs[k]?=some (v,av))\/J5 C g' bM w' k v av)(Nz:(Kp .io/\bM.io=st.io)\/∃fp,bE (cQ C g' bM w') C.ioV bM.io fp/\fp.Nodup/\∀b∈fp,g'.ej b=some .io): dN C g' bM a' w' uo:=by refine⟨aoe,uq,aod,λi av hi=>?_,λs cs hs=>?_,λk v av hk=>?_,EX,jz,?_⟩;rotate_right;rcases Nz with⟨kp,h1⟩|h1;obtain⟨fp,hr,hn,hl⟩:=h.io;refine⟨fp,?_,hn,λb hb=>(tH b _ kp (hl b hb)).1⟩;rw[h1];exact hr.mono hle (λb hb=>(tH b _ kp (hl b hb)).2);exact h1;rcases NJ i av hi with⟨kp,h1,h2⟩|h1;obtain⟨fp,hr,hn,hl⟩:=h.slots i av h1;refine⟨fp,?_,hn,λb hb=>(tH b _ kp (hl b hb)).1⟩;rw[h2];exact hr.mono hle (λb hb=>(tH b _ kp (hl b hb)).2);exact h1;rcases uZ s cs hs with⟨kp,h1,h2⟩|h1;obtain⟨arr,T,fr,fp,hb,tw,hr,hn,hni,hl,Ia,Ic⟩:=h.boxes s cs h1;have hk0:=tH _ _ kp Ia;rw[<-h2]at hk0 hb hni Ic;exact⟨arr,T,fr,fp,hk0.2.1.trans hb,tw,hr.mono hle (λb hb=>(tH b _ kp (hl b hb)).2),hn,hni,λb hb=>(tH b _ kp (hl b hb)).1,hk0.1,hk0.2.2.trans Ic⟩;exact h1;rcases aha k v av hk with⟨kp,h1⟩|h1;obtain⟨fp,hr,hn,hl⟩:=h.hands k v av h1;exact⟨fp,hr.mono hle (λb hb=>(tH b _ kp (hl b hb)).2),hn,λb hb=>(tH b _ kp (hl b hb)).1⟩;exact h1
theorem get_eq {i:Nat}{av:AV}(h:st.slots[i]?=some av):st.get i=av:=by simp[AS.get,dJ,h]
theorem fF.bot (c:RC)(v:Value):fF c v .bot []:=⟨[v],by simp[Cut],[],[],rfl,rfl,rfl⟩
theorem dN.slot {w:World}(h:dN C g st a w hs)(i:Nat): WG C g st a w i (st.get i):=by
 by_cases hi:i<st.slots.length;have:=al hi;rw[get_eq this];exact h.slots i _ this;have:st.get i=.bot:=by simp[AS.get,dJ,bJ (Nat.le_of_not_lt hi)]
 rw[this];exact⟨[],fF.bot _ _,by simp,by simp⟩
theorem Ji {hw:Nat->Nat}{w:World}{e:CT}{v:Value}{xs:au e.D}(h:eP hw w (.sl e) [v] xs fp):∃o n k,v=.slice o n k/\n=xs.length:=by obtain⟨u,hu,h⟩:=h;simp at hu;subst hu;rcases h with⟨⟨a,rfl⟩,rfl,_⟩|⟨b,o0,cap,arr,T,fr,fps,rfl,_⟩;exact⟨_,_,_,rfl,rfl⟩;exact⟨_,_,_,rfl,rfl⟩
theorem gE.borrow {v:Value}{x:AC}(r:gE c v x fp)(rt:ax kL):gE c v (x.borrow c.ep rt) []:=by
 cases x with
 |sl fl e xs=>
  cases fl with
  |own tag=>
   simp only[AC.borrow,gE]
   have hh:=Ji r.1
   refine⟨cv,aU _,hh,λ_=>eP.rep (λb o ho=> .inr ho) r.1,λr' t hp=>?_⟩
   cases rt with
   |none=>simp at hp
   |some r0=>
    cases tag with
    |none=>simp at hp
    |some t0=>
     simp at hp
     obtain⟨_,rfl⟩:=hp
     exact⟨(r.2 t0 rfl).1,(r.2 t0 rfl).2⟩
  |loc ep' pv'=>obtain⟨h1,h2⟩:=r;exact⟨rfl,h2⟩
  |arg _=>exact⟨rfl,r.2⟩
  |nest _ _ _ _ _ _=>exact⟨rfl,r.2⟩
  |part _ _ _ _=>exact⟨rfl,r.2⟩
  |eY tag i Na=>
   obtain⟨h1,⟨k,hk,h3⟩,h4⟩:=r
   cases Na with
   |none=>exact rfl
   |some Na=>
   simp only[AC.borrow,gE]
   refine⟨cv,(h1 Na rfl).1,?_,(h1 Na rfl).2,λr' t hp=>?_⟩
   ·obtain⟨b,o0,cap,arr,T,fr,fps,rfl,_⟩:=h3
    exact⟨_,_,_,rfl,rfl⟩
   ·cases rt with
    |none=>simp at hp
    |some r0=>
     cases tag with
     |none=>simp at hp
     |some t0=>
      simp at hp
      obtain⟨_,rfl⟩:=hp
      exact h4 t0 rfl
 |int k n=>exact⟨r.1,rfl⟩
 |bool b=>exact⟨r.1,rfl⟩
 |str s=>exact⟨r.1,rfl⟩
 |jE=>exact⟨r.1,rfl⟩
 |ptr s off=>exact⟨r.1,r.2.1,rfl⟩
 |fn f=>exact⟨r.1,rfl⟩
 |un=>exact⟨r.1,rfl⟩
 |bot=>exact rfl
 |Cd fl e y i off=>
  cases fl with
  |own tag=>exact r
  |loc ep' pv'=>exact⟨rfl,r.2⟩
  |arg _=>exact⟨rfl,r.2⟩
  |nest _ _ _ _ _ _=>exact r.elim
  |part _ _ _ _=>exact r.elim
  |eY _ _ _=>exact r.elim
theorem bE.aS:∀{vs:ie}{xs:au AC}{fp:eo},bE c vs xs fp->bE c vs (aS c.ep xs) []
 |[],[],_,_=>rfl
 |_::_,_::_,_,r=>by obtain⟨f1,f2,rfl,r1,r2⟩:=r;exact⟨[],[],rfl,r1.borrow none,bE.aS r2⟩
 |[],_::_,_,r=>r.elim
 |_::_,[],_,r=>r.elim
theorem gE.Y6 {v:Value}{x:AC}(r:gE c v (x.borrow c.ep none) []):gE c v (x.borrow 0 none) []:=by
 cases x with
 |sl fl e xs=>cases fl with|own tag=>simp only[AC.borrow,gE]at r⊢;exact⟨cv,cd _,r.2.2.1,λ_=>r.2.2.2.1 trivial,λ_ _ hp=>nomatch hp⟩|eY tag i ep=>cases ep<;>exact r|loc ep pv=>exact r|arg _=>exact r|nest _ _ _ _ _ _=>exact r|part _ _ _ _=>exact r
 |int _ _=>exact r
 |bool _=>exact r
 |str _=>exact r
 |jE=>exact r
 |ptr _ _=>exact r
 |fn _=>exact r
 |un=>exact r
 |bot=>exact r
 |Cd _ _ _ _ _=>exact r
theorem bE.Y6:∀{vs:ie}{xs:au AC}{fp:eo},bE c vs xs fp->bE c vs (Dn.aS 0 xs) []
 |[],[],_,_=>rfl
 |_::_,_::_,_,r=>by obtain⟨f1,f2,rfl,r1,r2⟩:=r;exact⟨[],[],rfl,(r1.borrow none).Y6,bE.Y6 r2⟩
 |[],_::_,_,r=>r.elim
 |_::_,[],_,r=>r.elim
theorem bE.borrow (f:Nat->kL):∀{vs:ie}{xs:au AC}{fp:eo}(j:Nat),bE c vs xs fp->bE c vs (ir c.ep f j xs) []
 |[],[],_,_,_=>rfl
 |_::_,_::_,_,j,r=>by obtain⟨f1,f2,rfl,r1,r2⟩:=r;exact⟨[],[],rfl,r1.borrow _,bE.borrow f (j+1) r2⟩
 |[],_::_,_,_,r=>r.elim
 |_::_,[],_,_,r=>r.elim
theorem rk.aS:∀{vs:ie}{xs:au (Bool×au AC)}{fp:eo},fF.rk c vs xs fp->fF.rk c vs (xs.map λx=>(x.1,Dn.aS c.ep x.2)) []
 |[],[],_,_=>rfl
 |_::_,_::_,_,r=>by obtain⟨f1,f2,rfl,⟨vs,hv,r1⟩,r2⟩:=r;exact⟨[],[],rfl,⟨vs,hv,r1.aS⟩,rk.aS r2⟩
 |[],_::_,_,r=>r.elim
 |_::_,[],_,r=>r.elim
theorem fF.aS {v:Value}{x:AV}(r:fF c v x fp):fF c v (x.aS c.ep) []:=by
 cases x with
 |val g cs=>obtain⟨vs,hv,r⟩:=r;exact⟨vs,hv,r.aS⟩
 |xn ts=>obtain⟨ws,hv,r⟩:=r;exact⟨ws,hv,rk.aS r⟩
theorem dN.ahI {w:World}(h:dN C g st a w hs)(t:Nat): fF (cQ C g st w) (a.tmps.getD t undef) ((st.get t).borrow st.ep (.slot t)) []:=by obtain⟨fp,hr,_,_⟩:=h.slot t;cases hg:st.get t with|xn ts=>rw[hg]at hr;exact hr.aS|val gg cs=>rw[hg]at hr;obtain⟨vs,hv,hr⟩:=hr;exact⟨vs,hv,bE.borrow (c:=cQ C g st w) (.slot t) 0 hr⟩
theorem aff (c:RC)(v:Value):fF c v (ofConst v) []:=by unfold ofConst;split;exact⟨_,rfl,[],[],rfl,⟨rfl,rfl⟩,rfl⟩;exact⟨_,rfl,[],[],rfl,⟨rfl,rfl⟩,rfl⟩;exact⟨_,rfl,[],[],rfl,⟨by simp,rfl⟩,rfl⟩;exact⟨_,rfl,[],[],rfl,⟨rfl,rfl⟩,rfl⟩;exact fF.bot _ _
theorem dN.rd {w:World}(h:dN C g st a w hs)(x:Operand): fF (cQ C g st w) (a.eval x) (st.rd x) []:=by cases x with|tmp t=>exact h.ahI t|const v=>exact aff _ v|func f=>exact⟨_,rfl,[],[],rfl,⟨rfl,rfl⟩,rfl⟩|global gl=>exact fF.bot _ _
theorem fD {d:Nat}{v:AV}:(st.put (some d) v).slots=st.slots.set d v:=by simp[AS.put,fg]
theorem kM {v:AV}:(st.put d v).boxes=st.boxes:=by cases d<;>rfl
theorem Kf {v:AV}:(st.put d v).ep=st.ep:=by cases d<;>rfl
theorem SK {v:AV}:(st.put d v).iss=st.iss:=by cases d<;>rfl
theorem I9 {v:AV}:mX (st.put d v)=mX st:=by funext t;simp[mX,SK]
theorem KK {v:AV}:jm (st.put d v)=jm st:=by funext s;simp[jm,kM]
theorem JV {d:Nat}{v:Value}(i:Nat):(a.put (some d) v).tmps.getD i undef=if i=d/\d<a.tmps.size then v else a.tmps.getD i undef:=by simp only[Act.put,cR,Array.getElem?_setIfInBounds];by_cases h:d=i;subst h;by_cases hs:d<a.tmps.size<;>simp[hs];simp[h,cY h]
theorem VS {v:Value}:(a.put d v).tmps.size=a.tmps.size:=by cases d<;>simp[Act.put]
theorem M5 {v:Value}:(a.put d v).defers=a.defers:=by cases d<;>rfl
end Go.Dn
