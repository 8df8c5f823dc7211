import Derived.Test.YtbebkmajekhclaaGreatDnRel
/- The relation between an abstract state and the model's frame and memory. -/
namespace Go.Dn
open Go.RowKit
variable {st:AS} {a:Act} {c:RC} {v:Value} {hs:aw (Value×AV)} {d:az Nat} {fp:fA}
inductive kK where
 |slot (i:Nat)|box (s:Nat)|hand (k:Nat)|io
 deriving DecidableEq
structure Gh where
 hw:Nat->Nat
 β:Nat->Nat
 fj:Nat->Option kK
 hdr:Nat->Value
variable {g:Gh}
def nH (st:AS)(t:Nat):Prop:=t%3≠2\/(nth st.iss (t/3/4096)).getD true=true
def jL (st:AS)(s:Nat):Prop:=∃cs,st.boxes[s]?=some (some cs)
structure Fr (M:Nat->Prop) (w w':World):Prop where
 os:w'.os=w.os
 tape:w'.tape=w.tape
 output:w'.output=w.output
 size:w.heap.size<=w'.heap.size
 block:∀b,b<w.heap.size->¬M b->w'.heap[b]?=w.heap[b]?
theorem Fr.refl (M:Nat->Prop)(w:World):Fr M w w:=⟨rfl,rfl,rfl,bt _,λ_ _ _=>rfl⟩
theorem Fr.trans {M M':Nat->Prop}{w w1 w2:World}(h:Fr M w w1)(k:Fr M' w1 w2)(hM:∀b,b<w.heap.size->M' b->M b):Fr M w w2:=⟨k.os.trans h.os,k.tape.trans h.tape,k.output.trans h.output,bp h.size k.size,λb hb hm=>(k.block b (Nat.lt_of_lt_of_le hb h.size) (λm=>hm (hM b hb m))).trans (h.block b hb hm)⟩
theorem Fr.below {w w':World}(h:Fr (λ_=>False) w w'):Below w.heap.size w w':=⟨h.os,h.tape,h.output,h.size,λk hk=>h.block k hk (λm=>m)⟩
structure Ctx where
 A:Rg
 M:Nat->Prop
 w0:World
 ioV:List Value
 hA:∀k b o,A k b o->b<w0.heap.size/\¬M b
variable {C:Ctx}
def dq (C:Ctx)(g:Gh)(st:AS)(w:World):RC:=⟨g.hw,g.β,C.A,g.hdr,nH st,st.ep,jL st,w⟩
def abK (C:Ctx)(g:Gh)(st:AS)(a:Act)(w:World)(i:Nat)(av:AV):Prop:=
 ∃fp,gS (dq C g st w) (a.tmps.getD i undef) av fp/\fp.Nodup/\∀b∈fp,g.fj b=some (.slot i)
def aoQ (C:Ctx)(g:Gh)(st:AS)(w:World)(s:Nat)(cs:aw AC):Prop:=
 ∃arr T fr fp,w.heap[g.β s]?=some (.cells arr T fr)/\rm arr fr/\ca (dq C g st w) arr.toList cs fp/\fp.Nodup/\g.β s∉fp/\
  (∀b∈fp,g.fj b=some (.box s))/\g.fj (g.β s)=some (.box s)/\g.hw (g.β s)=0
def ME (C:Ctx)(g:Gh)(st:AS)(w:World)(k:Nat)(v:Value)(av:AV):Prop:=
 ∃fp,gS (dq C g st w) v av fp/\fp.Nodup/\∀b∈fp,g.fj b=some (.hand k)
structure eE (C:Ctx) (g:Gh) (st:AS) (a:Act) (w:World) (hs:List (Value×AV)):Prop where
 defers:a.defers=[]
 size:a.tmps.size=st.slots.length
 bsize:st.boxes.length=st.slots.length
 slots:∀i av,st.slots[i]?=some av->abK C g st a w i av
 boxes:∀s cs,st.boxes[s]?=some (some cs)->aoQ C g st w s cs
 hands:∀k v av,hs[k]?=some (v,av)->ME C g st w k v av
 gN:∀b x,g.fj b=some x->b<w.heap.size/\(C.w0.heap.size<=b\/C.M b)
 frame:Fr C.M C.w0 w
 io:∃fp,ca (dq C g st w) C.ioV st.io fp/\fp.Nodup/\∀b∈fp,g.fj b=some .io
def py (C:Ctx)(st:AS)(a:Act)(w:World):Prop:=∃g,eE C g st a w []
theorem eE.Rq {w:World}(h:eE C g st a w hs){b:Nat}{x:kK}(hx:g.fj b=some x)(k:Bool)(o:Nat):¬C.A k b o:=by intro hA;have h1:=C.hA k b o hA;rcases(h.gN b x hx).2 with h2|h2;omega;exact h1.2 h2
theorem eE.step {g':Gh}{cp:AS}{a':Act}{w w':World}{yD:aw (Value×AV)}(h:eE C g st a w hs)(Kp:kK->Prop)(hle:(dq C g st w).Le (dq C g' cp w'))(ayc:a'.defers=[])(uU:a'.tmps.size=cp.slots.length)(ayb:cp.boxes.length=cp.slots.length)(jt:Fr C.M C.w0 w')(Ko:∀b x,g'.fj b=some x->b<w'.heap.size/\(C.w0.heap.size<=b\/C.M b))(vc:∀b x,Kp x->g.fj b=some x->g'.fj b=some x/\w'.heap[b]?=w.heap[b]?/\g'.hw b=g.hw b)(Ra:∀i av,cp.slots[i]?=some av-> (Kp (.slot i)/\st.slots[i]?=some av/\a'.tmps.getD i undef=a.tmps.getD i undef)\/abK C g' cp a' w' i av)(wJ:∀s cs,cp.boxes[s]?=some (some cs)-> (Kp (.box s)/\st.boxes[s]?=some (some cs)/\g'.β s=g.β s)\/aoQ C g' cp w' s cs)(aqk:∀k v av,yD[k]?=some (v,av)-> (Kp (.hand k)/\hs[k]?=some (v,av))\/ME C g' cp w' k v av)(Tf:(Kp .io/\cp.io=st.io)\/∃fp,ca (dq C g' cp w') C.ioV cp.io fp/\fp.Nodup/\∀b∈fp,g'.fj b=some .io): eE C g' cp a' w' yD:=by refine⟨ayc,uU,ayb,λi av hi=>?_,λs cs hs=>?_,λk v av hk=>?_,Ko,jt,?_⟩;rotate_right;rcases Tf with⟨kp,h1⟩|h1;obtain⟨fp,hr,hn,hl⟩:=h.io;refine⟨fp,?_,hn,λb hb=>(vc b _ kp (hl b hb)).1⟩;rw[h1];exact hr.mono hle (λb hb=>(vc b _ kp (hl b hb)).2);exact h1;rcases Ra i av hi with⟨kp,h1,h2⟩|h1;obtain⟨fp,hr,hn,hl⟩:=h.slots i av h1;refine⟨fp,?_,hn,λb hb=>(vc b _ kp (hl b hb)).1⟩;rw[h2];exact hr.mono hle (λb hb=>(vc b _ kp (hl b hb)).2);exact h1;rcases wJ s cs hs with⟨kp,h1,h2⟩|h1;obtain⟨arr,T,fr,fp,hb,uO,hr,hn,hni,hl,KO,KR⟩:=h.boxes s cs h1;have hk0:=vc _ _ kp KO;rw[<-h2]at hk0 hb hni KR;exact⟨arr,T,fr,fp,hk0.2.1.trans hb,uO,hr.mono hle (λb hb=>(vc b _ kp (hl b hb)).2),hn,hni,λb hb=>(vc b _ kp (hl b hb)).1,hk0.1,hk0.2.2.trans KR⟩;exact h1;rcases aqk k v av hk with⟨kp,h1⟩|h1;obtain⟨fp,hr,hn,hl⟩:=h.hands k v av h1;exact⟨fp,hr.mono hle (λb hb=>(vc b _ kp (hl b hb)).2),hn,λb hb=>(vc b _ kp (hl b hb)).1⟩;exact h1
theorem get_eq {i:Nat}{av:AV}(h:st.slots[i]?=some av):st.get i=av:=by simp[AS.get,ez,h]
theorem gS.bot (c:RC)(v:Value):gS c v .bot []:=⟨[v],by simp[Cut],[],[],rfl,rfl,rfl⟩
theorem eE.slot {w:World}(h:eE C g st a w hs)(i:Nat): abK C g st a w i (st.get i):=by
 by_cases hi:i<st.slots.length;have:=ak hi;rw[get_eq this];exact h.slots i _ this;have:st.get i=.bot:=by simp[AS.get,ez,bJ (kM hi)]
 rw[this];exact⟨[],gS.bot _ _,by simp,by simp⟩
theorem RJ {hw:Nat->Nat}{w:World}{e:CT}{xs:aw e.D}(h:fR hw w (.sl e) [v] xs fp):∃o n k,v=.slice o n k/\n=xs.length:=by obtain⟨u,hu,h⟩:=h;simp at hu;subst hu;rcases h with⟨⟨a,rfl⟩,rfl,_⟩|⟨b,o0,cap,arr,T,fr,fps,rfl,_⟩;exact⟨_,_,_,rfl,rfl⟩;exact⟨_,_,_,rfl,rfl⟩
theorem iy.borrow {x:AC}(r:iy c v x fp)(rt:az lx):iy c v (x.borrow c.ep rt) []:=by
 cases x with
 |sl fl e xs=>
  cases fl with
  |own tag=>
   simp only[AC.borrow,iy]
   have hh:=RJ r.1
   refine⟨cq,bt _,hh,λ_=>fR.rep (λb o ho=> .inr ho) r.1,λr' t hp=>?_⟩
   cases rt with
   |none=>simp at hp
   |some r0=>
    cases tag with
    |none=>simp at hp
    |some t0=>
     simp at hp
     obtain⟨_,rfl⟩:=hp
     exact⟨(r.2 t0 rfl).1,(r.2 t0 rfl).2⟩
  |loc ep' pv'=>obtain⟨h1,h2⟩:=r;exact⟨rfl,h2⟩
  |arg _=>exact⟨rfl,r.2⟩
  |nest _ _ _ _ _ _=>exact⟨rfl,r.2⟩
  |part _ _ _ _=>exact⟨rfl,r.2⟩
  |fS tag i Qw=>
   obtain⟨h1,⟨k,hk,h3⟩,h4⟩:=r
   cases Qw with
   |none=>exact rfl
   |some Qw=>
   simp only[AC.borrow,iy]
   refine⟨cq,(h1 Qw rfl).1,?_,(h1 Qw rfl).2,λr' t hp=>?_⟩
   ·obtain⟨b,o0,cap,arr,T,fr,fps,rfl,_⟩:=h3
    exact⟨_,_,_,rfl,rfl⟩
   ·cases rt with
    |none=>simp at hp
    |some r0=>
     cases tag with
     |none=>simp at hp
     |some t0=>
      simp at hp
      obtain⟨_,rfl⟩:=hp
      exact h4 t0 rfl
 |int k n=>exact⟨r.1,rfl⟩
 |bool b=>exact⟨r.1,rfl⟩
 |str s=>exact⟨r.1,rfl⟩
 |kv=>exact⟨r.1,rfl⟩
 |ptr s off=>exact⟨r.1,r.2.1,rfl⟩
 |fn f=>exact⟨r.1,rfl⟩
 |un=>exact⟨r.1,rfl⟩
 |bot=>exact rfl
 |Ey fl e y i off=>
  cases fl with
  |own tag=>exact r
  |loc ep' pv'=>exact⟨rfl,r.2⟩
  |arg _=>exact⟨rfl,r.2⟩
  |nest _ _ _ _ _ _=>exact r.elim
  |part _ _ _ _=>exact r.elim
  |fS _ _ _=>exact r.elim
theorem ca.bl:∀{vs:jf}{xs:aw AC}{fp:fA},ca c vs xs fp->ca c vs (bl c.ep xs) []
 |[],[],_,_=>rfl
 |_::_,_::_,_,r=>by obtain⟨f1,f2,rfl,r1,r2⟩:=r;exact⟨[],[],rfl,r1.borrow none,ca.bl r2⟩
 |[],_::_,_,r=>r.elim
 |_::_,[],_,r=>r.elim
theorem iy.ae0 {x:AC}(r:iy c v (x.borrow c.ep none) []):iy c v (x.borrow 0 none) []:=by
 cases x with
 |sl fl e xs=>cases fl with|own tag=>simp only[AC.borrow,iy]at r⊢;exact⟨cq,bC _,r.2.2.1,λ_=>r.2.2.2.1 trivial,λ_ _ hp=>nomatch hp⟩|fS tag i ep=>cases ep<;>exact r|loc ep pv=>exact r|arg _=>exact r|nest _ _ _ _ _ _=>exact r|part _ _ _ _=>exact r
 |int _ _=>exact r
 |bool _=>exact r
 |str _=>exact r
 |kv=>exact r
 |ptr _ _=>exact r
 |fn _=>exact r
 |un=>exact r
 |bot=>exact r
 |Ey _ _ _ _ _=>exact r
theorem ca.ae0:∀{vs:jf}{xs:aw AC}{fp:fA},ca c vs xs fp->ca c vs (Dn.bl 0 xs) []
 |[],[],_,_=>rfl
 |_::_,_::_,_,r=>by obtain⟨f1,f2,rfl,r1,r2⟩:=r;exact⟨[],[],rfl,(r1.borrow none).ae0,ca.ae0 r2⟩
 |[],_::_,_,r=>r.elim
 |_::_,[],_,r=>r.elim
theorem ca.borrow (f:Nat->lx):∀{vs:jf}{xs:aw AC}{fp:fA}(j:Nat),ca c vs xs fp->ca c vs (iZ c.ep f j xs) []
 |[],[],_,_,_=>rfl
 |_::_,_::_,_,j,r=>by obtain⟨f1,f2,rfl,r1,r2⟩:=r;exact⟨[],[],rfl,r1.borrow _,ca.borrow f (j+1) r2⟩
 |[],_::_,_,_,r=>r.elim
 |_::_,[],_,_,r=>r.elim
theorem so.bl:∀{vs:jf}{xs:aw (Bool×aw AC)}{fp:fA},gS.so c vs xs fp->gS.so c vs (xs.map λx=>(x.1,Dn.bl c.ep x.2)) []
 |[],[],_,_=>rfl
 |_::_,_::_,_,r=>by obtain⟨f1,f2,rfl,⟨vs,hv,r1⟩,r2⟩:=r;exact⟨[],[],rfl,⟨vs,hv,r1.bl⟩,so.bl r2⟩
 |[],_::_,_,r=>r.elim
 |_::_,[],_,r=>r.elim
theorem gS.bl {x:AV}(r:gS c v x fp):gS c v (x.bl c.ep) []:=by
 cases x with
 |val g cs=>obtain⟨vs,hv,r⟩:=r;exact⟨vs,hv,r.bl⟩
 |yC ts=>obtain⟨ws,hv,r⟩:=r;exact⟨ws,hv,so.bl r⟩
theorem eE.ary {w:World}(h:eE C g st a w hs)(t:Nat): gS (dq C g st w) (a.tmps.getD t undef) ((st.get t).borrow st.ep (.slot t)) []:=by obtain⟨fp,hr,_,_⟩:=h.slot t;cases hg:st.get t with|yC ts=>rw[hg]at hr;exact hr.bl|val gg cs=>rw[hg]at hr;obtain⟨vs,hv,hr⟩:=hr;exact⟨vs,hv,ca.borrow (c:=dq C g st w) (.slot t) 0 hr⟩
theorem anq (c:RC)(v:Value):gS c v (ofConst v) []:=by unfold ofConst;split;exact⟨_,rfl,[],[],rfl,⟨rfl,rfl⟩,rfl⟩;exact⟨_,rfl,[],[],rfl,⟨rfl,rfl⟩,rfl⟩;exact⟨_,rfl,[],[],rfl,⟨by simp,rfl⟩,rfl⟩;exact⟨_,rfl,[],[],rfl,⟨rfl,rfl⟩,rfl⟩;exact gS.bot _ _
theorem eE.rd {w:World}(h:eE C g st a w hs)(x:Operand): gS (dq C g st w) (a.eval x) (st.rd x) []:=by cases x with|tmp t=>exact h.ary t|const v=>exact anq _ v|func f=>exact⟨_,rfl,[],[],rfl,⟨rfl,rfl⟩,rfl⟩|global gl=>exact gS.bot _ _
theorem gx {d:Nat}{v:AV}:(st.put (some d) v).slots=st.slots.set d v:=by simp[AS.put,fV]
theorem ly {v:AV}:(st.put d v).boxes=st.boxes:=by cases d<;>rfl
theorem MO {v:AV}:(st.put d v).ep=st.ep:=by cases d<;>rfl
theorem W5 {v:AV}:(st.put d v).iss=st.iss:=by cases d<;>rfl
theorem LC {v:AV}:nH (st.put d v)=nH st:=by funext t;simp[nH,W5]
theorem Ng {v:AV}:jL (st.put d v)=jL st:=by funext s;simp[jL,ly]
theorem Mr {d:Nat}(i:Nat):(a.put (some d) v).tmps.getD i undef=if i=d/\d<a.tmps.size then v else a.tmps.getD i undef:=by simp only[Act.put,dQ,Array.getElem?_setIfInBounds];by_cases h:d=i;subst h;by_cases hs:d<a.tmps.size<;>simp[hs];simp[h,df h]
theorem aa9:(a.put d v).tmps.size=a.tmps.size:=by cases d<;>simp[Act.put]
theorem Qr:(a.put d v).defers=a.defers:=by cases d<;>rfl
end Go.Dn
