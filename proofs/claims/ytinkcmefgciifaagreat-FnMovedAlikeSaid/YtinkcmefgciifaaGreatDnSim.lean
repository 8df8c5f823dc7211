import Derived.Test.YtinkcmefgciifaaGreatDnRel
/- The relation between an abstract state and the model's frame and memory. -/
namespace Go.Dn
open Go.RowKit
variable {st:AS} {a:Act} {c:RC} {v:Value} {hs:ax (Value×AV)} {d:ay Nat} {fp:fy}
inductive jM where
 |slot (i:Nat)|box (s:Nat)|hand (k:Nat)|io
 deriving DecidableEq
structure Gh where
 hw:Nat->Nat
 β:Nat->Nat
 ej:Nat->Option jM
 hdr:Nat->Value
variable {g:Gh}
def mC (st:AS)(t:Nat):Prop:=t%3≠2\/(nth st.iss (t/3/4096)).getD true=true
def jb (st:AS)(s:Nat):Prop:=∃cs,st.boxes[s]?=some (some cs)
structure Fr (M:Nat->Prop) (w w':World):Prop where
 os:w'.os=w.os
 tape:w'.tape=w.tape
 output:w'.output=w.output
 size:w.heap.size<=w'.heap.size
 block:∀b,b<w.heap.size->¬M b->w'.heap[b]?=w.heap[b]?
theorem Fr.refl (M:Nat->Prop)(w:World):Fr M w w:=⟨rfl,rfl,rfl,aS _,λ_ _ _=>rfl⟩
theorem Fr.trans {M M':Nat->Prop}{w w1 w2:World}(h:Fr M w w1)(k:Fr M' w1 w2)(hM:∀b,b<w.heap.size->M' b->M b):Fr M w w2:=⟨k.os.trans h.os,k.tape.trans h.tape,k.output.trans h.output,bw h.size k.size,λb hb hm=>(k.block b (Nat.lt_of_lt_of_le hb h.size) (λm=>hm (hM b hb m))).trans (h.block b hb hm)⟩
theorem Fr.below {w w':World}(h:Fr (λ_=>False) w w'):Below w.heap.size w w':=⟨h.os,h.tape,h.output,h.size,λk hk=>h.block k hk (λm=>m)⟩
structure Ctx where
 A:Rg
 M:Nat->Prop
 w0:World
 ioV:List Value
 hA:∀k b o,A k b o->b<w0.heap.size/\¬M b
variable {C:Ctx}
def cM (C:Ctx)(g:Gh)(st:AS)(w:World):RC:=⟨g.hw,g.β,C.A,g.hdr,mC st,st.ep,jb st,w⟩
def Uc (C:Ctx)(g:Gh)(st:AS)(a:Act)(w:World)(i:Nat)(av:AV):Prop:=
 ∃fp,fX (cM C g st w) (a.tmps.getD i undef) av fp/\fp.Nodup/\∀b∈fp,g.ej b=some (.slot i)
def ago (C:Ctx)(g:Gh)(st:AS)(w:World)(s:Nat)(cs:ax AC):Prop:=
 ∃arr T fr fp,w.heap[g.β s]?=some (.cells arr T fr)/\px arr fr/\bD (cM C g st w) arr.toList cs fp/\fp.Nodup/\g.β s∉fp/\
  (∀b∈fp,g.ej b=some (.box s))/\g.ej (g.β s)=some (.box s)/\g.hw (g.β s)=0
def Hf (C:Ctx)(g:Gh)(st:AS)(w:World)(k:Nat)(v:Value)(av:AV):Prop:=
 ∃fp,fX (cM C g st w) v av fp/\fp.Nodup/\∀b∈fp,g.ej b=some (.hand k)
structure dP (C:Ctx) (g:Gh) (st:AS) (a:Act) (w:World) (hs:List (Value×AV)):Prop where
 defers:a.defers=[]
 size:a.tmps.size=st.slots.length
 bsize:st.boxes.length=st.slots.length
 slots:∀i av,st.slots[i]?=some av->Uc C g st a w i av
 boxes:∀s cs,st.boxes[s]?=some (some cs)->ago C g st w s cs
 hands:∀k v av,hs[k]?=some (v,av)->Hf C g st w k v av
 fY:∀b x,g.ej b=some x->b<w.heap.size/\(C.w0.heap.size<=b\/C.M b)
 frame:Fr C.M C.w0 w
 io:∃fp,bD (cM C g st w) C.ioV st.io fp/\fp.Nodup/\∀b∈fp,g.ej b=some .io
def ij (C:Ctx)(st:AS)(a:Act)(w:World):Prop:=∃g,dP C g st a w []
theorem dP.Lc {w:World}(h:dP C g st a w hs){b:Nat}{x:jM}(hx:g.ej b=some x)(k:Bool)(o:Nat):¬C.A k b o:=by intro hA;have h1:=C.hA k b o hA;rcases(h.fY b x hx).2 with h2|h2;omega;exact h1.2 h2
theorem dP.step {g':Gh}{bN:AS}{a':Act}{w w':World}{xi:ax (Value×AV)}(h:dP C g st a w hs)(Kp:jM->Prop)(hle:(cM C g st w).Le (cM C g' bN w'))(aob:a'.defers=[])(tH:a'.tmps.size=bN.slots.length)(aoa:bN.boxes.length=bN.slots.length)(jq:Fr C.M C.w0 w')(CG:∀b x,g'.ej b=some x->b<w'.heap.size/\(C.w0.heap.size<=b\/C.M b))(rJ:∀b x,Kp x->g.ej b=some x->g'.ej b=some x/\w'.heap[b]?=w.heap[b]?/\g'.hw b=g.hw b)(KV:∀i av,bN.slots[i]?=some av-> (Kp (.slot i)/\st.slots[i]?=some av/\a'.tmps.getD i undef=a.tmps.getD i undef)\/Uc C g' bN a' w' i av)(sZ:∀s cs,bN.boxes[s]?=some (some cs)-> (Kp (.box s)/\st.boxes[s]?=some (some cs)/\g'.β s=g.β s)\/ago C g' bN w' s cs)(ahB:∀k v av,xi[k]?=some (v,av)-> (Kp (.hand k)/\hs[k]?=some (v,av))\/Hf C g' bN w' k v av)(MB:(Kp .io/\bN.io=st.io)\/∃fp,bD (cM C g' bN w') C.ioV bN.io fp/\fp.Nodup/\∀b∈fp,g'.ej b=some .io): dP C g' bN a' w' xi:=by refine⟨aob,tH,aoa,λi av hi=>?_,λs cs hs=>?_,λk v av hk=>?_,CG,jq,?_⟩;rotate_right;rcases MB with⟨kp,h1⟩|h1;obtain⟨fp,hr,hn,hl⟩:=h.io;refine⟨fp,?_,hn,λb hb=>(rJ b _ kp (hl b hb)).1⟩;rw[h1];exact hr.mono hle (λb hb=>(rJ b _ kp (hl b hb)).2);exact h1;rcases KV i av hi with⟨kp,h1,h2⟩|h1;obtain⟨fp,hr,hn,hl⟩:=h.slots i av h1;refine⟨fp,?_,hn,λb hb=>(rJ b _ kp (hl b hb)).1⟩;rw[h2];exact hr.mono hle (λb hb=>(rJ b _ kp (hl b hb)).2);exact h1;rcases sZ s cs hs with⟨kp,h1,h2⟩|h1;obtain⟨arr,T,fr,fp,hb,rz,hr,hn,hni,hl,Fl,Fo⟩:=h.boxes s cs h1;have hk0:=rJ _ _ kp Fl;rw[<-h2]at hk0 hb hni Fo;exact⟨arr,T,fr,fp,hk0.2.1.trans hb,rz,hr.mono hle (λb hb=>(rJ b _ kp (hl b hb)).2),hn,hni,λb hb=>(rJ b _ kp (hl b hb)).1,hk0.1,hk0.2.2.trans Fo⟩;exact h1;rcases ahB k v av hk with⟨kp,h1⟩|h1;obtain⟨fp,hr,hn,hl⟩:=h.hands k v av h1;exact⟨fp,hr.mono hle (λb hb=>(rJ b _ kp (hl b hb)).2),hn,λb hb=>(rJ b _ kp (hl b hb)).1⟩;exact h1
theorem get_eq {i:Nat}{av:AV}(h:st.slots[i]?=some av):st.get i=av:=by simp[AS.get,dK,h]
theorem fX.bot (c:RC)(v:Value):fX c v .bot []:=⟨[v],by simp[Cut],[],[],rfl,rfl,rfl⟩
theorem dP.slot {w:World}(h:dP C g st a w hs)(i:Nat): Uc C g st a w i (st.get i):=by
 by_cases hi:i<st.slots.length;have:=aq hi;rw[get_eq this];exact h.slots i _ this;have:st.get i=.bot:=by simp[AS.get,dK,bn (Nat.le_of_not_lt hi)]
 rw[this];exact⟨[],fX.bot _ _,by simp,by simp⟩
theorem Lr {hw:Nat->Nat}{w:World}{e:CT}{xs:ax e.D}(h:fg hw w (.sl e) [v] xs fp):∃o n k,v=.slice o n k/\n=xs.length:=by obtain⟨u,hu,h⟩:=h;simp at hu;subst hu;rcases h with⟨⟨a,rfl⟩,rfl,_⟩|⟨b,o0,cap,arr,T,fr,fps,rfl,_⟩;exact⟨_,_,_,rfl,rfl⟩;exact⟨_,_,_,rfl,rfl⟩
theorem gK.borrow {x:AC}(r:gK c v x fp)(rt:ay ky):gK c v (x.borrow c.ep rt) []:=by
 cases x with
 |sl fl e xs=>
  cases fl with
  |own tag=>
   simp only[AC.borrow,gK]
   have hh:=Lr r.1
   refine⟨cq,aS _,hh,λ_=>fg.rep (λb o ho=> .inr ho) r.1,λr' t hp=>?_⟩
   cases rt with
   |none=>simp at hp
   |some r0=>
    cases tag with
    |none=>simp at hp
    |some t0=>
     simp at hp
     obtain⟨_,rfl⟩:=hp
     exact⟨(r.2 t0 rfl).1,(r.2 t0 rfl).2⟩
  |loc ep' pv'=>obtain⟨h1,h2⟩:=r;exact⟨rfl,h2⟩
  |arg _=>exact⟨rfl,r.2⟩
  |nest _ _ _ _ _ _=>exact⟨rfl,r.2⟩
  |part _ _ _ _=>exact⟨rfl,r.2⟩
  |fi tag i Ks=>
   obtain⟨h1,⟨k,hk,h3⟩,h4⟩:=r
   cases Ks with
   |none=>exact rfl
   |some Ks=>
   simp only[AC.borrow,gK]
   refine⟨cq,(h1 Ks rfl).1,?_,(h1 Ks rfl).2,λr' t hp=>?_⟩
   ·obtain⟨b,o0,cap,arr,T,fr,fps,rfl,_⟩:=h3
    exact⟨_,_,_,rfl,rfl⟩
   ·cases rt with
    |none=>simp at hp
    |some r0=>
     cases tag with
     |none=>simp at hp
     |some t0=>
      simp at hp
      obtain⟨_,rfl⟩:=hp
      exact h4 t0 rfl
 |int k n=>exact⟨r.1,rfl⟩
 |bool b=>exact⟨r.1,rfl⟩
 |str s=>exact⟨r.1,rfl⟩
 |jB=>exact⟨r.1,rfl⟩
 |ptr s off=>exact⟨r.1,r.2.1,rfl⟩
 |fn f=>exact⟨r.1,rfl⟩
 |un=>exact⟨r.1,rfl⟩
 |bot=>exact rfl
 |zX fl e y i off=>
  cases fl with
  |own tag=>exact r
  |loc ep' pv'=>exact⟨rfl,r.2⟩
  |arg _=>exact⟨rfl,r.2⟩
  |nest _ _ _ _ _ _=>exact r.elim
  |part _ _ _ _=>exact r.elim
  |fi _ _ _=>exact r.elim
theorem bD.aU:∀{vs:iG}{xs:ax AC}{fp:fy},bD c vs xs fp->bD c vs (aU c.ep xs) []
 |[],[],_,_=>rfl
 |_::_,_::_,_,r=>by obtain⟨f1,f2,rfl,r1,r2⟩:=r;exact⟨[],[],rfl,r1.borrow none,bD.aU r2⟩
 |[],_::_,_,r=>r.elim
 |_::_,[],_,r=>r.elim
theorem gK.Xj {x:AC}(r:gK c v (x.borrow c.ep none) []):gK c v (x.borrow 0 none) []:=by
 cases x with
 |sl fl e xs=>cases fl with|own tag=>simp only[AC.borrow,gK]at r⊢;exact⟨cq,bU _,r.2.2.1,λ_=>r.2.2.2.1 trivial,λ_ _ hp=>nomatch hp⟩|fi tag i ep=>cases ep<;>exact r|loc ep pv=>exact r|arg _=>exact r|nest _ _ _ _ _ _=>exact r|part _ _ _ _=>exact r
 |int _ _=>exact r
 |bool _=>exact r
 |str _=>exact r
 |jB=>exact r
 |ptr _ _=>exact r
 |fn _=>exact r
 |un=>exact r
 |bot=>exact r
 |zX _ _ _ _ _=>exact r
theorem bD.Xj:∀{vs:iG}{xs:ax AC}{fp:fy},bD c vs xs fp->bD c vs (Dn.aU 0 xs) []
 |[],[],_,_=>rfl
 |_::_,_::_,_,r=>by obtain⟨f1,f2,rfl,r1,r2⟩:=r;exact⟨[],[],rfl,(r1.borrow none).Xj,bD.Xj r2⟩
 |[],_::_,_,r=>r.elim
 |_::_,[],_,r=>r.elim
theorem bD.borrow (f:Nat->ky):∀{vs:iG}{xs:ax AC}{fp:fy}(j:Nat),bD c vs xs fp->bD c vs (iv c.ep f j xs) []
 |[],[],_,_,_=>rfl
 |_::_,_::_,_,j,r=>by obtain⟨f1,f2,rfl,r1,r2⟩:=r;exact⟨[],[],rfl,r1.borrow _,bD.borrow f (j+1) r2⟩
 |[],_::_,_,_,r=>r.elim
 |_::_,[],_,_,r=>r.elim
theorem qe.aU:∀{vs:iG}{xs:ax (Bool×ax AC)}{fp:fy},fX.qe c vs xs fp->fX.qe c vs (xs.map λx=>(x.1,Dn.aU c.ep x.2)) []
 |[],[],_,_=>rfl
 |_::_,_::_,_,r=>by obtain⟨f1,f2,rfl,⟨vs,hv,r1⟩,r2⟩:=r;exact⟨[],[],rfl,⟨vs,hv,r1.aU⟩,qe.aU r2⟩
 |[],_::_,_,r=>r.elim
 |_::_,[],_,r=>r.elim
theorem fX.aU {x:AV}(r:fX c v x fp):fX c v (x.aU c.ep) []:=by
 cases x with
 |val g cs=>obtain⟨vs,hv,r⟩:=r;exact⟨vs,hv,r.aU⟩
 |uW ts=>obtain⟨ws,hv,r⟩:=r;exact⟨ws,hv,qe.aU r⟩
theorem dP.aiF {w:World}(h:dP C g st a w hs)(t:Nat): fX (cM C g st w) (a.tmps.getD t undef) ((st.get t).borrow st.ep (.slot t)) []:=by obtain⟨fp,hr,_,_⟩:=h.slot t;cases hg:st.get t with|uW ts=>rw[hg]at hr;exact hr.aU|val gg cs=>rw[hg]at hr;obtain⟨vs,hv,hr⟩:=hr;exact⟨vs,hv,bD.borrow (c:=cM C g st w) (.slot t) 0 hr⟩
theorem afc (c:RC)(v:Value):fX c v (ofConst v) []:=by unfold ofConst;split;exact⟨_,rfl,[],[],rfl,⟨rfl,rfl⟩,rfl⟩;exact⟨_,rfl,[],[],rfl,⟨rfl,rfl⟩,rfl⟩;exact⟨_,rfl,[],[],rfl,⟨by simp,rfl⟩,rfl⟩;exact⟨_,rfl,[],[],rfl,⟨rfl,rfl⟩,rfl⟩;exact fX.bot _ _
theorem dP.rd {w:World}(h:dP C g st a w hs)(x:Operand): fX (cM C g st w) (a.eval x) (st.rd x) []:=by cases x with|tmp t=>exact h.aiF t|const v=>exact afc _ v|func f=>exact⟨_,rfl,[],[],rfl,⟨rfl,rfl⟩,rfl⟩|global gl=>exact fX.bot _ _
theorem fM {d:Nat}{v:AV}:(st.put (some d) v).slots=st.slots.set d v:=by simp[AS.put,fu]
theorem kA {v:AV}:(st.put d v).boxes=st.boxes:=by cases d<;>rfl
theorem Hq {v:AV}:(st.put d v).ep=st.ep:=by cases d<;>rfl
theorem PZ {v:AV}:(st.put d v).iss=st.iss:=by cases d<;>rfl
theorem Gk {v:AV}:mC (st.put d v)=mC st:=by funext t;simp[mC,PZ]
theorem HY {v:AV}:jb (st.put d v)=jb st:=by funext s;simp[jb,kA]
theorem G4 {d:Nat}(i:Nat):(a.put (some d) v).tmps.getD i undef=if i=d/\d<a.tmps.size then v else a.tmps.getD i undef:=by simp only[Act.put,dz,Array.getElem?_setIfInBounds];by_cases h:d=i;subst h;by_cases hs:d<a.tmps.size<;>simp[hs];simp[h,cO h]
theorem Tv:(a.put d v).tmps.size=a.tmps.size:=by cases d<;>simp[Act.put]
theorem Km:(a.put d v).defers=a.defers:=by cases d<;>rfl
end Go.Dn
