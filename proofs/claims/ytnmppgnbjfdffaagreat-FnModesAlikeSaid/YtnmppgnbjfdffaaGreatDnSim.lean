import Derived.Test.YtnmppgnbjfdffaaGreatDnRel
/- The relation between an abstract state and the model's frame and memory. -/
namespace Go.Dn
open Go.RowKit
variable {st:AS} {a:Act} {c:RC} {v:Value} {hs:ay (Value×AV)} {d:aC Nat} {fp:fR}
inductive kI where
 |slot (i:Nat)|box (s:Nat)|hand (k:Nat)|io
 deriving DecidableEq
structure Gh where
 hw:Nat->Nat
 β:Nat->Nat
 fe:Nat->Option kI
 hdr:Nat->Value
variable {g:Gh}
def nq (st:AS)(t:Nat):Prop:=t%3≠2\/(nth st.iss (t/3/4096)).getD true=true
def jO (st:AS)(s:Nat):Prop:=∃cs,st.boxes[s]?=some (some cs)
structure Fr (M:Nat->Prop) (w w':World):Prop where
 os:w'.os=w.os
 tape:w'.tape=w.tape
 output:w'.output=w.output
 size:w.heap.size<=w'.heap.size
 block:∀b,b<w.heap.size->¬M b->w'.heap[b]?=w.heap[b]?
theorem Fr.refl (M:Nat->Prop)(w:World):Fr M w w:=⟨rfl,rfl,rfl,aV _,λ_ _ _=>rfl⟩
theorem Fr.trans {M M':Nat->Prop}{w w1 w2:World}(h:Fr M w w1)(k:Fr M' w1 w2)(hM:∀b,b<w.heap.size->M' b->M b):Fr M w w2:=⟨k.os.trans h.os,k.tape.trans h.tape,k.output.trans h.output,bT h.size k.size,λb hb hm=>(k.block b (Nat.lt_of_lt_of_le hb h.size) (λm=>hm (hM b hb m))).trans (h.block b hb hm)⟩
theorem Fr.below {w w':World}(h:Fr (λ_=>False) w w'):Below w.heap.size w w':=⟨h.os,h.tape,h.output,h.size,λk hk=>h.block k hk (λm=>m)⟩
structure Ctx where
 A:Rg
 M:Nat->Prop
 w0:World
 ioV:List Value
 hA:∀k b o,A k b o->b<w0.heap.size/\¬M b
variable {C:Ctx}
def dk (C:Ctx)(g:Gh)(st:AS)(w:World):RC:=⟨g.hw,g.β,C.A,g.hdr,nq st,st.ep,jO st,w⟩
def V6 (C:Ctx)(g:Gh)(st:AS)(a:Act)(w:World)(i:Nat)(av:AV):Prop:=
 ∃fp,gW (dk C g st w) (a.tmps.getD i undef) av fp/\fp.Nodup/\∀b∈fp,g.fe b=some (.slot i)
def ahX (C:Ctx)(g:Gh)(st:AS)(w:World)(s:Nat)(cs:ay AC):Prop:=
 ∃arr T fr fp,w.heap[g.β s]?=some (.cells arr T fr)/\qh arr fr/\bR (dk C g st w) arr.toList cs fp/\fp.Nodup/\g.β s∉fp/\
  (∀b∈fp,g.fe b=some (.box s))/\g.fe (g.β s)=some (.box s)/\g.hw (g.β s)=0
def IC (C:Ctx)(g:Gh)(st:AS)(w:World)(k:Nat)(v:Value)(av:AV):Prop:=
 ∃fp,gW (dk C g st w) v av fp/\fp.Nodup/\∀b∈fp,g.fe b=some (.hand k)
structure eK (C:Ctx) (g:Gh) (st:AS) (a:Act) (w:World) (hs:List (Value×AV)):Prop where
 defers:a.defers=[]
 size:a.tmps.size=st.slots.length
 bsize:st.boxes.length=st.slots.length
 slots:∀i av,st.slots[i]?=some av->V6 C g st a w i av
 boxes:∀s cs,st.boxes[s]?=some (some cs)->ahX C g st w s cs
 hands:∀k v av,hs[k]?=some (v,av)->IC C g st w k v av
 gY:∀b x,g.fe b=some x->b<w.heap.size/\(C.w0.heap.size<=b\/C.M b)
 frame:Fr C.M C.w0 w
 io:∃fp,bR (dk C g st w) C.ioV st.io fp/\fp.Nodup/\∀b∈fp,g.fe b=some .io
def oE (C:Ctx)(st:AS)(a:Act)(w:World):Prop:=∃g,eK C g st a w []
theorem eK.MU {w:World}(h:eK C g st a w hs){b:Nat}{x:kI}(hx:g.fe b=some x)(k:Bool)(o:Nat):¬C.A k b o:=by intro hA;have h1:=C.hA k b o hA;rcases(h.gY b x hx).2 with h2|h2;omega;exact h1.2 h2
theorem eK.step {g':Gh}{bX:AS}{a':Act}{w w':World}{yj:ay (Value×AV)}(h:eK C g st a w hs)(Kp:kI->Prop)(hle:(dk C g st w).Le (dk C g' bX w'))(apm:a'.defers=[])(uL:a'.tmps.size=bX.slots.length)(apl:bX.boxes.length=bX.slots.length)(jQ:Fr C.M C.w0 w')(Ef:∀b x,g'.fe b=some x->b<w'.heap.size/\(C.w0.heap.size<=b\/C.M b))(sM:∀b x,Kp x->g.fe b=some x->g'.fe b=some x/\w'.heap[b]?=w.heap[b]?/\g'.hw b=g.hw b)(MC:∀i av,bX.slots[i]?=some av-> (Kp (.slot i)/\st.slots[i]?=some av/\a'.tmps.getD i undef=a.tmps.getD i undef)\/V6 C g' bX a' w' i av)(ud:∀s cs,bX.boxes[s]?=some (some cs)-> (Kp (.box s)/\st.boxes[s]?=some (some cs)/\g'.β s=g.β s)\/ahX C g' bX w' s cs)(ajf:∀k v av,yj[k]?=some (v,av)-> (Kp (.hand k)/\hs[k]?=some (v,av))\/IC C g' bX w' k v av)(Ot:(Kp .io/\bX.io=st.io)\/∃fp,bR (dk C g' bX w') C.ioV bX.io fp/\fp.Nodup/\∀b∈fp,g'.fe b=some .io): eK C g' bX a' w' yj:=by refine⟨apm,uL,apl,λi av hi=>?_,λs cs hs=>?_,λk v av hk=>?_,Ef,jQ,?_⟩;rotate_right;rcases Ot with⟨kp,h1⟩|h1;obtain⟨fp,hr,hn,hl⟩:=h.io;refine⟨fp,?_,hn,λb hb=>(sM b _ kp (hl b hb)).1⟩;rw[h1];exact hr.mono hle (λb hb=>(sM b _ kp (hl b hb)).2);exact h1;rcases MC i av hi with⟨kp,h1,h2⟩|h1;obtain⟨fp,hr,hn,hl⟩:=h.slots i av h1;refine⟨fp,?_,hn,λb hb=>(sM b _ kp (hl b hb)).1⟩;rw[h2];exact hr.mono hle (λb hb=>(sM b _ kp (hl b hb)).2);exact h1;rcases ud s cs hs with⟨kp,h1,h2⟩|h1;obtain⟨arr,T,fr,fp,hb,sE,hr,hn,hni,hl,GQ,GS⟩:=h.boxes s cs h1;have hk0:=sM _ _ kp GQ;rw[<-h2]at hk0 hb hni GS;exact⟨arr,T,fr,fp,hk0.2.1.trans hb,sE,hr.mono hle (λb hb=>(sM b _ kp (hl b hb)).2),hn,hni,λb hb=>(sM b _ kp (hl b hb)).1,hk0.1,hk0.2.2.trans GS⟩;exact h1;rcases ajf k v av hk with⟨kp,h1⟩|h1;obtain⟨fp,hr,hn,hl⟩:=h.hands k v av h1;exact⟨fp,hr.mono hle (λb hb=>(sM b _ kp (hl b hb)).2),hn,λb hb=>(sM b _ kp (hl b hb)).1⟩;exact h1
theorem get_eq {i:Nat}{av:AV}(h:st.slots[i]?=some av):st.get i=av:=by simp[AS.get,eH,h]
theorem gW.bot (c:RC)(v:Value):gW c v .bot []:=⟨[v],by simp[Cut],[],[],rfl,rfl,rfl⟩
theorem eK.slot {w:World}(h:eK C g st a w hs)(i:Nat): V6 C g st a w i (st.get i):=by
 by_cases hi:i<st.slots.length;have:=aw hi;rw[get_eq this];exact h.slots i _ this;have:st.get i=.bot:=by simp[AS.get,eH,bM (Nat.le_of_not_lt hi)]
 rw[this];exact⟨[],gW.bot _ _,by simp,by simp⟩
theorem Na {hw:Nat->Nat}{w:World}{e:CT}{xs:ay e.D}(h:gi hw w (.sl e) [v] xs fp):∃o n k,v=.slice o n k/\n=xs.length:=by obtain⟨u,hu,h⟩:=h;simp at hu;subst hu;rcases h with⟨⟨a,rfl⟩,rfl,_⟩|⟨b,o0,cap,arr,T,fr,fps,rfl,_⟩;exact⟨_,_,_,rfl,rfl⟩;exact⟨_,_,_,rfl,rfl⟩
theorem iI.borrow {x:AC}(r:iI c v x fp)(rt:aC lq):iI c v (x.borrow c.ep rt) []:=by
 cases x with
 |sl fl e xs=>
  cases fl with
  |own tag=>
   simp only[AC.borrow,iI]
   have hh:=Na r.1
   refine⟨dq,aV _,hh,λ_=>gi.rep (λb o ho=> .inr ho) r.1,λr' t hp=>?_⟩
   cases rt with
   |none=>simp at hp
   |some r0=>
    cases tag with
    |none=>simp at hp
    |some t0=>
     simp at hp
     obtain⟨_,rfl⟩:=hp
     exact⟨(r.2 t0 rfl).1,(r.2 t0 rfl).2⟩
  |loc ep' pv'=>obtain⟨h1,h2⟩:=r;exact⟨rfl,h2⟩
  |arg _=>exact⟨rfl,r.2⟩
  |nest _ _ _ _ _ _=>exact⟨rfl,r.2⟩
  |part _ _ _ _=>exact⟨rfl,r.2⟩
  |gj tag i L3=>
   obtain⟨h1,⟨k,hk,h3⟩,h4⟩:=r
   cases L3 with
   |none=>exact rfl
   |some L3=>
   simp only[AC.borrow,iI]
   refine⟨dq,(h1 L3 rfl).1,?_,(h1 L3 rfl).2,λr' t hp=>?_⟩
   ·obtain⟨b,o0,cap,arr,T,fr,fps,rfl,_⟩:=h3
    exact⟨_,_,_,rfl,rfl⟩
   ·cases rt with
    |none=>simp at hp
    |some r0=>
     cases tag with
     |none=>simp at hp
     |some t0=>
      simp at hp
      obtain⟨_,rfl⟩:=hp
      exact h4 t0 rfl
 |int k n=>exact⟨r.1,rfl⟩
 |bool b=>exact⟨r.1,rfl⟩
 |str s=>exact⟨r.1,rfl⟩
 |kx=>exact⟨r.1,rfl⟩
 |ptr s off=>exact⟨r.1,r.2.1,rfl⟩
 |fn f=>exact⟨r.1,rfl⟩
 |un=>exact⟨r.1,rfl⟩
 |bot=>exact rfl
 |BA fl e y i off=>
  cases fl with
  |own tag=>exact r
  |loc ep' pv'=>exact⟨rfl,r.2⟩
  |arg _=>exact⟨rfl,r.2⟩
  |nest _ _ _ _ _ _=>exact r.elim
  |part _ _ _ _=>exact r.elim
  |gj _ _ _=>exact r.elim
theorem bR.bf:∀{vs:jz}{xs:ay AC}{fp:fR},bR c vs xs fp->bR c vs (bf c.ep xs) []
 |[],[],_,_=>rfl
 |_::_,_::_,_,r=>by obtain⟨f1,f2,rfl,r1,r2⟩:=r;exact⟨[],[],rfl,r1.borrow none,bR.bf r2⟩
 |[],_::_,_,r=>r.elim
 |_::_,[],_,r=>r.elim
theorem iI.YP {x:AC}(r:iI c v (x.borrow c.ep none) []):iI c v (x.borrow 0 none) []:=by
 cases x with
 |sl fl e xs=>cases fl with|own tag=>simp only[AC.borrow,iI]at r⊢;exact⟨dq,cq _,r.2.2.1,λ_=>r.2.2.2.1 trivial,λ_ _ hp=>nomatch hp⟩|gj tag i ep=>cases ep<;>exact r|loc ep pv=>exact r|arg _=>exact r|nest _ _ _ _ _ _=>exact r|part _ _ _ _=>exact r
 |int _ _=>exact r
 |bool _=>exact r
 |str _=>exact r
 |kx=>exact r
 |ptr _ _=>exact r
 |fn _=>exact r
 |un=>exact r
 |bot=>exact r
 |BA _ _ _ _ _=>exact r
theorem bR.YP:∀{vs:jz}{xs:ay AC}{fp:fR},bR c vs xs fp->bR c vs (Dn.bf 0 xs) []
 |[],[],_,_=>rfl
 |_::_,_::_,_,r=>by obtain⟨f1,f2,rfl,r1,r2⟩:=r;exact⟨[],[],rfl,(r1.borrow none).YP,bR.YP r2⟩
 |[],_::_,_,r=>r.elim
 |_::_,[],_,r=>r.elim
theorem bR.borrow (f:Nat->lq):∀{vs:jz}{xs:ay AC}{fp:fR}(j:Nat),bR c vs xs fp->bR c vs (jn c.ep f j xs) []
 |[],[],_,_,_=>rfl
 |_::_,_::_,_,j,r=>by obtain⟨f1,f2,rfl,r1,r2⟩:=r;exact⟨[],[],rfl,r1.borrow _,bR.borrow f (j+1) r2⟩
 |[],_::_,_,_,r=>r.elim
 |_::_,[],_,_,r=>r.elim
theorem qM.bf:∀{vs:jz}{xs:ay (Bool×ay AC)}{fp:fR},gW.qM c vs xs fp->gW.qM c vs (xs.map λx=>(x.1,Dn.bf c.ep x.2)) []
 |[],[],_,_=>rfl
 |_::_,_::_,_,r=>by obtain⟨f1,f2,rfl,⟨vs,hv,r1⟩,r2⟩:=r;exact⟨[],[],rfl,⟨vs,hv,r1.bf⟩,qM.bf r2⟩
 |[],_::_,_,r=>r.elim
 |_::_,[],_,r=>r.elim
theorem gW.bf {x:AV}(r:gW c v x fp):gW c v (x.bf c.ep) []:=by
 cases x with
 |val g cs=>obtain⟨vs,hv,r⟩:=r;exact⟨vs,hv,r.bf⟩
 |wh ts=>obtain⟨ws,hv,r⟩:=r;exact⟨ws,hv,qM.bf r⟩
theorem eK.akg {w:World}(h:eK C g st a w hs)(t:Nat): gW (dk C g st w) (a.tmps.getD t undef) ((st.get t).borrow st.ep (.slot t)) []:=by obtain⟨fp,hr,_,_⟩:=h.slot t;cases hg:st.get t with|wh ts=>rw[hg]at hr;exact hr.bf|val gg cs=>rw[hg]at hr;obtain⟨vs,hv,hr⟩:=hr;exact⟨vs,hv,bR.borrow (c:=dk C g st w) (.slot t) 0 hr⟩
theorem agA (c:RC)(v:Value):gW c v (ofConst v) []:=by unfold ofConst;split;exact⟨_,rfl,[],[],rfl,⟨rfl,rfl⟩,rfl⟩;exact⟨_,rfl,[],[],rfl,⟨rfl,rfl⟩,rfl⟩;exact⟨_,rfl,[],[],rfl,⟨by simp,rfl⟩,rfl⟩;exact⟨_,rfl,[],[],rfl,⟨rfl,rfl⟩,rfl⟩;exact gW.bot _ _
theorem eK.rd {w:World}(h:eK C g st a w hs)(x:Operand): gW (dk C g st w) (a.eval x) (st.rd x) []:=by cases x with|tmp t=>exact h.akg t|const v=>exact agA _ v|func f=>exact⟨_,rfl,[],[],rfl,⟨rfl,rfl⟩,rfl⟩|global gl=>exact gW.bot _ _
theorem gE {d:Nat}{v:AV}:(st.put (some d) v).slots=st.slots.set d v:=by simp[AS.put,gr]
theorem lr {v:AV}:(st.put d v).boxes=st.boxes:=by cases d<;>rfl
theorem IP {v:AV}:(st.put d v).ep=st.ep:=by cases d<;>rfl
theorem R0 {v:AV}:(st.put d v).iss=st.iss:=by cases d<;>rfl
theorem HL {v:AV}:nq (st.put d v)=nq st:=by funext t;simp[nq,R0]
theorem Jr {v:AV}:jO (st.put d v)=jO st:=by funext s;simp[jO,lr]
theorem Is {d:Nat}(i:Nat):(a.put (some d) v).tmps.getD i undef=if i=d/\d<a.tmps.size then v else a.tmps.getD i undef:=by simp only[Act.put,dQ,Array.getElem?_setIfInBounds];by_cases h:d=i;subst h;by_cases hs:d<a.tmps.size<;>simp[hs];simp[h,cr h]
theorem Vr:(a.put d v).tmps.size=a.tmps.size:=by cases d<;>simp[Act.put]
theorem LZ:(a.put d v).defers=a.defers:=by cases d<;>rfl
end Go.Dn
