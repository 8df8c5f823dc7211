import Derived.Test.YtbebkmajekhclaaGreatDnRel
/- The relation between an abstract state and the model's frame and memory. -/
namespace Go.Dn
open Go.RowKit
variable {st:AS} {a:Act} {c:RC} {v:Value} {hs:ax (Value×AV)} {d:az Nat} {fp:fK}
inductive kZ where
 |slot (i:Nat)|box (s:Nat)|hand (k:Nat)|io
 deriving DecidableEq
structure Gh where
 hw:Nat->Nat
 β:Nat->Nat
 ft:Nat->Option kZ
 hdr:Nat->Value
variable {g:Gh}
def oc (st:AS)(t:Nat):Prop:=t%3≠2\/(nth st.iss (t/3/4096)).getD true=true
def jW (st:AS)(s:Nat):Prop:=∃cs,st.boxes[s]?=some (some cs)
structure Fr (M:Nat->Prop) (w w':World):Prop where
 os:w'.os=w.os
 tape:w'.tape=w.tape
 output:w'.output=w.output
 size:w.heap.size<=w'.heap.size
 block:∀b,b<w.heap.size->¬M b->w'.heap[b]?=w.heap[b]?
theorem Fr.refl (M:Nat->Prop)(w:World):Fr M w w:=⟨rfl,rfl,rfl,bj _,λ_ _ _=>rfl⟩
theorem Fr.trans {M M':Nat->Prop}{w w1 w2:World}(h:Fr M w w1)(k:Fr M' w1 w2)(hM:∀b,b<w.heap.size->M' b->M b):Fr M w w2:=⟨k.os.trans h.os,k.tape.trans h.tape,k.output.trans h.output,bp h.size k.size,λb hb hm=>(k.block b (Nat.lt_of_lt_of_le hb h.size) (λm=>hm (hM b hb m))).trans (h.block b hb hm)⟩
theorem Fr.below {w w':World}(h:Fr (λ_=>False) w w'):Below w.heap.size w w':=⟨h.os,h.tape,h.output,h.size,λk hk=>h.block k hk (λm=>m)⟩
structure Ctx where
 A:Rg
 M:Nat->Prop
 w0:World
 ioV:List Value
 hA:∀k b o,A k b o->b<w0.heap.size/\¬M b
variable {C:Ctx}
def df (C:Ctx)(g:Gh)(st:AS)(w:World):RC:=⟨g.hw,g.β,C.A,g.hdr,oc st,st.ep,jW st,w⟩
def aac (C:Ctx)(g:Gh)(st:AS)(a:Act)(w:World)(i:Nat)(av:AV):Prop:=
 ∃fp,gU (df C g st w) (a.tmps.getD i undef) av fp/\fp.Nodup/\∀b∈fp,g.ft b=some (.slot i)
def amQ (C:Ctx)(g:Gh)(st:AS)(w:World)(s:Nat)(cs:ax AC):Prop:=
 ∃arr T fr fp,w.heap[g.β s]?=some (.cells arr T fr)/\ru arr fr/\bU (df C g st w) arr.toList cs fp/\fp.Nodup/\g.β s∉fp/\
  (∀b∈fp,g.ft b=some (.box s))/\g.ft (g.β s)=some (.box s)/\g.hw (g.β s)=0
def Ll (C:Ctx)(g:Gh)(st:AS)(w:World)(k:Nat)(v:Value)(av:AV):Prop:=
 ∃fp,gU (df C g st w) v av fp/\fp.Nodup/\∀b∈fp,g.ft b=some (.hand k)
structure eJ (C:Ctx) (g:Gh) (st:AS) (a:Act) (w:World) (hs:List (Value×AV)):Prop where
 defers:a.defers=[]
 size:a.tmps.size=st.slots.length
 bsize:st.boxes.length=st.slots.length
 slots:∀i av,st.slots[i]?=some av->aac C g st a w i av
 boxes:∀s cs,st.boxes[s]?=some (some cs)->amQ C g st w s cs
 hands:∀k v av,hs[k]?=some (v,av)->Ll C g st w k v av
 gW:∀b x,g.ft b=some x->b<w.heap.size/\(C.w0.heap.size<=b\/C.M b)
 frame:Fr C.M C.w0 w
 io:∃fp,bU (df C g st w) C.ioV st.io fp/\fp.Nodup/\∀b∈fp,g.ft b=some .io
def pL (C:Ctx)(st:AS)(a:Act)(w:World):Prop:=∃g,eJ C g st a w []
theorem eJ.Qd {w:World}(h:eJ C g st a w hs){b:Nat}{x:kZ}(hx:g.ft b=some x)(k:Bool)(o:Nat):¬C.A k b o:=by intro hA;have h1:=C.hA k b o hA;rcases(h.gW b x hx).2 with h2|h2;omega;exact h1.2 h2
theorem eJ.step {g':Gh}{bZ:AS}{a':Act}{w w':World}{yp:ax (Value×AV)}(h:eJ C g st a w hs)(Kp:kZ->Prop)(hle:(df C g st w).Le (df C g' bZ w'))(avr:a'.defers=[])(vZ:a'.tmps.size=bZ.slots.length)(avq:bZ.boxes.length=bZ.slots.length)(kb:Fr C.M C.w0 w')(Gn:∀b x,g'.ft b=some x->b<w'.heap.size/\(C.w0.heap.size<=b\/C.M b))(uG:∀b x,Kp x->g.ft b=some x->g'.ft b=some x/\w'.heap[b]?=w.heap[b]?/\g'.hw b=g.hw b)(PW:∀i av,bZ.slots[i]?=some av-> (Kp (.slot i)/\st.slots[i]?=some av/\a'.tmps.getD i undef=a.tmps.getD i undef)\/aac C g' bZ a' w' i av)(vY:∀s cs,bZ.boxes[s]?=some (some cs)-> (Kp (.box s)/\st.boxes[s]?=some (some cs)/\g'.β s=g.β s)\/amQ C g' bZ w' s cs)(aoj:∀k v av,yp[k]?=some (v,av)-> (Kp (.hand k)/\hs[k]?=some (v,av))\/Ll C g' bZ w' k v av)(RS:(Kp .io/\bZ.io=st.io)\/∃fp,bU (df C g' bZ w') C.ioV bZ.io fp/\fp.Nodup/\∀b∈fp,g'.ft b=some .io): eJ C g' bZ a' w' yp:=by refine⟨avr,vZ,avq,λi av hi=>?_,λs cs hs=>?_,λk v av hk=>?_,Gn,kb,?_⟩;rotate_right;rcases RS with⟨kp,h1⟩|h1;obtain⟨fp,hr,hn,hl⟩:=h.io;refine⟨fp,?_,hn,λb hb=>(uG b _ kp (hl b hb)).1⟩;rw[h1];exact hr.mono hle (λb hb=>(uG b _ kp (hl b hb)).2);exact h1;rcases PW i av hi with⟨kp,h1,h2⟩|h1;obtain⟨fp,hr,hn,hl⟩:=h.slots i av h1;refine⟨fp,?_,hn,λb hb=>(uG b _ kp (hl b hb)).1⟩;rw[h2];exact hr.mono hle (λb hb=>(uG b _ kp (hl b hb)).2);exact h1;rcases vY s cs hs with⟨kp,h1,h2⟩|h1;obtain⟨arr,T,fr,fp,hb,uv,hr,hn,hni,hl,Jq,Jt⟩:=h.boxes s cs h1;have hk0:=uG _ _ kp Jq;rw[<-h2]at hk0 hb hni Jt;exact⟨arr,T,fr,fp,hk0.2.1.trans hb,uv,hr.mono hle (λb hb=>(uG b _ kp (hl b hb)).2),hn,hni,λb hb=>(uG b _ kp (hl b hb)).1,hk0.1,hk0.2.2.trans Jt⟩;exact h1;rcases aoj k v av hk with⟨kp,h1⟩|h1;obtain⟨fp,hr,hn,hl⟩:=h.hands k v av h1;exact⟨fp,hr.mono hle (λb hb=>(uG b _ kp (hl b hb)).2),hn,λb hb=>(uG b _ kp (hl b hb)).1⟩;exact h1
theorem get_eq {i:Nat}{av:AV}(h:st.slots[i]?=some av):st.get i=av:=by simp[AS.get,eH,h]
theorem gU.bot (c:RC)(v:Value):gU c v .bot []:=⟨[v],by simp[Cut],[],[],rfl,rfl,rfl⟩
theorem eJ.slot {w:World}(h:eJ C g st a w hs)(i:Nat): aac C g st a w i (st.get i):=by
 by_cases hi:i<st.slots.length;have:=al hi;rw[get_eq this];exact h.slots i _ this;have:st.get i=.bot:=by simp[AS.get,eH,bI (Nat.le_of_not_lt hi)]
 rw[this];exact⟨[],gU.bot _ _,by simp,by simp⟩
theorem Qt {hw:Nat->Nat}{w:World}{e:CT}{xs:ax e.D}(h:fZ hw w (.sl e) [v] xs fp):∃o n k,v=.slice o n k/\n=xs.length:=by obtain⟨u,hu,h⟩:=h;simp at hu;subst hu;rcases h with⟨⟨a,rfl⟩,rfl,_⟩|⟨b,o0,cap,arr,T,fr,fps,rfl,_⟩;exact⟨_,_,_,rfl,rfl⟩;exact⟨_,_,_,rfl,rfl⟩
theorem iC.borrow {x:AC}(r:iC c v x fp)(rt:az lQ):iC c v (x.borrow c.ep rt) []:=by
 cases x with
 |sl fl e xs=>
  cases fl with
  |own tag=>
   simp only[AC.borrow,iC]
   have hh:=Qt r.1
   refine⟨cB,bj _,hh,λ_=>fZ.rep (λb o ho=> .inr ho) r.1,λr' t hp=>?_⟩
   cases rt with
   |none=>simp at hp
   |some r0=>
    cases tag with
    |none=>simp at hp
    |some t0=>
     simp at hp
     obtain⟨_,rfl⟩:=hp
     exact⟨(r.2 t0 rfl).1,(r.2 t0 rfl).2⟩
  |loc ep' pv'=>obtain⟨h1,h2⟩:=r;exact⟨rfl,h2⟩
  |arg _=>exact⟨rfl,r.2⟩
  |nest _ _ _ _ _ _=>exact⟨rfl,r.2⟩
  |part _ _ _ _=>exact⟨rfl,r.2⟩
  |ga tag i Pf=>
   obtain⟨h1,⟨k,hk,h3⟩,h4⟩:=r
   cases Pf with
   |none=>exact rfl
   |some Pf=>
   simp only[AC.borrow,iC]
   refine⟨cB,(h1 Pf rfl).1,?_,(h1 Pf rfl).2,λr' t hp=>?_⟩
   ·obtain⟨b,o0,cap,arr,T,fr,fps,rfl,_⟩:=h3
    exact⟨_,_,_,rfl,rfl⟩
   ·cases rt with
    |none=>simp at hp
    |some r0=>
     cases tag with
     |none=>simp at hp
     |some t0=>
      simp at hp
      obtain⟨_,rfl⟩:=hp
      exact h4 t0 rfl
 |int k n=>exact⟨r.1,rfl⟩
 |bool b=>exact⟨r.1,rfl⟩
 |str s=>exact⟨r.1,rfl⟩
 |kI=>exact⟨r.1,rfl⟩
 |ptr s off=>exact⟨r.1,r.2.1,rfl⟩
 |fn f=>exact⟨r.1,rfl⟩
 |un=>exact⟨r.1,rfl⟩
 |bot=>exact rfl
 |Dy fl e y i off=>
  cases fl with
  |own tag=>exact r
  |loc ep' pv'=>exact⟨rfl,r.2⟩
  |arg _=>exact⟨rfl,r.2⟩
  |nest _ _ _ _ _ _=>exact r.elim
  |part _ _ _ _=>exact r.elim
  |ga _ _ _=>exact r.elim
theorem bU.bf:∀{vs:jt}{xs:ax AC}{fp:fK},bU c vs xs fp->bU c vs (bf c.ep xs) []
 |[],[],_,_=>rfl
 |_::_,_::_,_,r=>by obtain⟨f1,f2,rfl,r1,r2⟩:=r;exact⟨[],[],rfl,r1.borrow none,bU.bf r2⟩
 |[],_::_,_,r=>r.elim
 |_::_,[],_,r=>r.elim
theorem iC.adm {x:AC}(r:iC c v (x.borrow c.ep none) []):iC c v (x.borrow 0 none) []:=by
 cases x with
 |sl fl e xs=>cases fl with|own tag=>simp only[AC.borrow,iC]at r⊢;exact⟨cB,cg _,r.2.2.1,λ_=>r.2.2.2.1 trivial,λ_ _ hp=>nomatch hp⟩|ga tag i ep=>cases ep<;>exact r|loc ep pv=>exact r|arg _=>exact r|nest _ _ _ _ _ _=>exact r|part _ _ _ _=>exact r
 |int _ _=>exact r
 |bool _=>exact r
 |str _=>exact r
 |kI=>exact r
 |ptr _ _=>exact r
 |fn _=>exact r
 |un=>exact r
 |bot=>exact r
 |Dy _ _ _ _ _=>exact r
theorem bU.adm:∀{vs:jt}{xs:ax AC}{fp:fK},bU c vs xs fp->bU c vs (Dn.bf 0 xs) []
 |[],[],_,_=>rfl
 |_::_,_::_,_,r=>by obtain⟨f1,f2,rfl,r1,r2⟩:=r;exact⟨[],[],rfl,(r1.borrow none).adm,bU.adm r2⟩
 |[],_::_,_,r=>r.elim
 |_::_,[],_,r=>r.elim
theorem bU.borrow (f:Nat->lQ):∀{vs:jt}{xs:ax AC}{fp:fK}(j:Nat),bU c vs xs fp->bU c vs (jj c.ep f j xs) []
 |[],[],_,_,_=>rfl
 |_::_,_::_,_,j,r=>by obtain⟨f1,f2,rfl,r1,r2⟩:=r;exact⟨[],[],rfl,r1.borrow _,bU.borrow f (j+1) r2⟩
 |[],_::_,_,_,r=>r.elim
 |_::_,[],_,_,r=>r.elim
theorem sk.bf:∀{vs:jt}{xs:ax (Bool×ax AC)}{fp:fK},gU.sk c vs xs fp->gU.sk c vs (xs.map λx=>(x.1,Dn.bf c.ep x.2)) []
 |[],[],_,_=>rfl
 |_::_,_::_,_,r=>by obtain⟨f1,f2,rfl,⟨vs,hv,r1⟩,r2⟩:=r;exact⟨[],[],rfl,⟨vs,hv,r1.bf⟩,sk.bf r2⟩
 |[],_::_,_,r=>r.elim
 |_::_,[],_,r=>r.elim
theorem gU.bf {x:AV}(r:gU c v x fp):gU c v (x.bf c.ep) []:=by
 cases x with
 |val g cs=>obtain⟨vs,hv,r⟩:=r;exact⟨vs,hv,r.bf⟩
 |yh ts=>obtain⟨ws,hv,r⟩:=r;exact⟨ws,hv,sk.bf r⟩
theorem eJ.apt {w:World}(h:eJ C g st a w hs)(t:Nat): gU (df C g st w) (a.tmps.getD t undef) ((st.get t).borrow st.ep (.slot t)) []:=by obtain⟨fp,hr,_,_⟩:=h.slot t;cases hg:st.get t with|yh ts=>rw[hg]at hr;exact hr.bf|val gg cs=>rw[hg]at hr;obtain⟨vs,hv,hr⟩:=hr;exact⟨vs,hv,bU.borrow (c:=df C g st w) (.slot t) 0 hr⟩
theorem alG (c:RC)(v:Value):gU c v (ofConst v) []:=by unfold ofConst;split;exact⟨_,rfl,[],[],rfl,⟨rfl,rfl⟩,rfl⟩;exact⟨_,rfl,[],[],rfl,⟨rfl,rfl⟩,rfl⟩;exact⟨_,rfl,[],[],rfl,⟨by simp,rfl⟩,rfl⟩;exact⟨_,rfl,[],[],rfl,⟨rfl,rfl⟩,rfl⟩;exact gU.bot _ _
theorem eJ.rd {w:World}(h:eJ C g st a w hs)(x:Operand): gU (df C g st w) (a.eval x) (st.rd x) []:=by cases x with|tmp t=>exact h.apt t|const v=>exact alG _ v|func f=>exact⟨_,rfl,[],[],rfl,⟨rfl,rfl⟩,rfl⟩|global gl=>exact gU.bot _ _
theorem gG {d:Nat}{v:AV}:(st.put (some d) v).slots=st.slots.set d v:=by simp[AS.put,gj]
theorem lR {v:AV}:(st.put d v).boxes=st.boxes:=by cases d<;>rfl
theorem Lw {v:AV}:(st.put d v).ep=st.ep:=by cases d<;>rfl
theorem VH {v:AV}:(st.put d v).iss=st.iss:=by cases d<;>rfl
theorem Kq {v:AV}:oc (st.put d v)=oc st:=by funext t;simp[oc,VH]
theorem Mb {v:AV}:jW (st.put d v)=jW st:=by funext s;simp[jW,lR]
theorem K7 {d:Nat}(i:Nat):(a.put (some d) v).tmps.getD i undef=if i=d/\d<a.tmps.size then v else a.tmps.getD i undef:=by simp only[Act.put,dW,Array.getElem?_setIfInBounds];by_cases h:d=i;subst h;by_cases hs:d<a.tmps.size<;>simp[hs];simp[h,cZ h]
theorem ZD:(a.put d v).tmps.size=a.tmps.size:=by cases d<;>simp[Act.put]
theorem Pb:(a.put d v).defers=a.defers:=by cases d<;>rfl
end Go.Dn
