import Derived.Test.YtbebkmajekhclaaGreatDnRel
/- The relation between an abstract state and the model's frame and memory. -/
namespace Go.Dn
open Go.RowKit
variable {st:AS} {a:Act} {c:RC} {v:Value} {hs:aw (Value×AV)} {d:ay Nat} {fp:fE}
inductive kz where
 |slot (i:Nat)|box (s:Nat)|hand (k:Nat)|io
 deriving DecidableEq
structure Gh where
 hw:Nat->Nat
 β:Nat->Nat
 eX:Nat->Option kz
 hdr:Nat->Value
variable {g:Gh}
def nD (st:AS)(t:Nat):Prop:=t%3≠2\/(nth st.iss (t/3/4096)).getD true=true
def jF (st:AS)(s:Nat):Prop:=∃cs,st.boxes[s]?=some (some cs)
structure Fr (M:Nat->Prop) (w w':World):Prop where
 os:w'.os=w.os
 tape:w'.tape=w.tape
 output:w'.output=w.output
 size:w.heap.size<=w'.heap.size
 block:∀b,b<w.heap.size->¬M b->w'.heap[b]?=w.heap[b]?
theorem Fr.refl (M:Nat->Prop)(w:World):Fr M w w:=⟨rfl,rfl,rfl,bh _,λ_ _ _=>rfl⟩
theorem Fr.trans {M M':Nat->Prop}{w w1 w2:World}(h:Fr M w w1)(k:Fr M' w1 w2)(hM:∀b,b<w.heap.size->M' b->M b):Fr M w w2:=⟨k.os.trans h.os,k.tape.trans h.tape,k.output.trans h.output,bq h.size k.size,λb hb hm=>(k.block b (Nat.lt_of_lt_of_le hb h.size) (λm=>hm (hM b hb m))).trans (h.block b hb hm)⟩
theorem Fr.below {w w':World}(h:Fr (λ_=>False) w w'):Below w.heap.size w w':=⟨h.os,h.tape,h.output,h.size,λk hk=>h.block k hk (λm=>m)⟩
structure Ctx where
 A:Rg
 M:Nat->Prop
 w0:World
 ioV:List Value
 hA:∀k b o,A k b o->b<w0.heap.size/\¬M b
variable {C:Ctx}
def db (C:Ctx)(g:Gh)(st:AS)(w:World):RC:=⟨g.hw,g.β,C.A,g.hdr,nD st,st.ep,jF st,w⟩
def ZN (C:Ctx)(g:Gh)(st:AS)(a:Act)(w:World)(i:Nat)(av:AV):Prop:=
 ∃fp,gK (db C g st w) (a.tmps.getD i undef) av fp/\fp.Nodup/\∀b∈fp,g.eX b=some (.slot i)
def aml (C:Ctx)(g:Gh)(st:AS)(w:World)(s:Nat)(cs:aw AC):Prop:=
 ∃arr T fr fp,w.heap[g.β s]?=some (.cells arr T fr)/\qQ arr fr/\bO (db C g st w) arr.toList cs fp/\fp.Nodup/\g.β s∉fp/\
  (∀b∈fp,g.eX b=some (.box s))/\g.eX (g.β s)=some (.box s)/\g.hw (g.β s)=0
def KK (C:Ctx)(g:Gh)(st:AS)(w:World)(k:Nat)(v:Value)(av:AV):Prop:=
 ∃fp,gK (db C g st w) v av fp/\fp.Nodup/\∀b∈fp,g.eX b=some (.hand k)
structure ew (C:Ctx) (g:Gh) (st:AS) (a:Act) (w:World) (hs:List (Value×AV)):Prop where
 defers:a.defers=[]
 size:a.tmps.size=st.slots.length
 bsize:st.boxes.length=st.slots.length
 slots:∀i av,st.slots[i]?=some av->ZN C g st a w i av
 boxes:∀s cs,st.boxes[s]?=some (some cs)->aml C g st w s cs
 hands:∀k v av,hs[k]?=some (v,av)->KK C g st w k v av
 gL:∀b x,g.eX b=some x->b<w.heap.size/\(C.w0.heap.size<=b\/C.M b)
 frame:Fr C.M C.w0 w
 io:∃fp,bO (db C g st w) C.ioV st.io fp/\fp.Nodup/\∀b∈fp,g.eX b=some .io
def pc (C:Ctx)(st:AS)(a:Act)(w:World):Prop:=∃g,ew C g st a w []
theorem ew.Pq {w:World}(h:ew C g st a w hs){b:Nat}{x:kz}(hx:g.eX b=some x)(k:Bool)(o:Nat):¬C.A k b o:=by intro hA;have h1:=C.hA k b o hA;rcases(h.gL b x hx).2 with h2|h2;omega;exact h1.2 h2
theorem ew.step {g':Gh}{bU:AS}{a':Act}{w w':World}{xJ:aw (Value×AV)}(h:ew C g st a w hs)(Kp:kz->Prop)(hle:(db C g st w).Le (db C g' bU w'))(avi:a'.defers=[])(vB:a'.tmps.size=bU.slots.length)(avh:bU.boxes.length=bU.slots.length)(jH:Fr C.M C.w0 w')(FV:∀b x,g'.eX b=some x->b<w'.heap.size/\(C.w0.heap.size<=b\/C.M b))(ud:∀b x,Kp x->g.eX b=some x->g'.eX b=some x/\w'.heap[b]?=w.heap[b]?/\g'.hw b=g.hw b)(O4:∀i av,bU.slots[i]?=some av-> (Kp (.slot i)/\st.slots[i]?=some av/\a'.tmps.getD i undef=a.tmps.getD i undef)\/ZN C g' bU a' w' i av)(vA:∀s cs,bU.boxes[s]?=some (some cs)-> (Kp (.box s)/\st.boxes[s]?=some (some cs)/\g'.β s=g.β s)\/aml C g' bU w' s cs)(anZ:∀k v av,xJ[k]?=some (v,av)-> (Kp (.hand k)/\hs[k]?=some (v,av))\/KK C g' bU w' k v av)(Q0:(Kp .io/\bU.io=st.io)\/∃fp,bO (db C g' bU w') C.ioV bU.io fp/\fp.Nodup/\∀b∈fp,g'.eX b=some .io): ew C g' bU a' w' xJ:=by refine⟨avi,vB,avh,λi av hi=>?_,λs cs hs=>?_,λk v av hk=>?_,FV,jH,?_⟩;rotate_right;rcases Q0 with⟨kp,h1⟩|h1;obtain⟨fp,hr,hn,hl⟩:=h.io;refine⟨fp,?_,hn,λb hb=>(ud b _ kp (hl b hb)).1⟩;rw[h1];exact hr.mono hle (λb hb=>(ud b _ kp (hl b hb)).2);exact h1;rcases O4 i av hi with⟨kp,h1,h2⟩|h1;obtain⟨fp,hr,hn,hl⟩:=h.slots i av h1;refine⟨fp,?_,hn,λb hb=>(ud b _ kp (hl b hb)).1⟩;rw[h2];exact hr.mono hle (λb hb=>(ud b _ kp (hl b hb)).2);exact h1;rcases vA s cs hs with⟨kp,h1,h2⟩|h1;obtain⟨arr,T,fr,fp,hb,tN,hr,hn,hni,hl,IV,IY⟩:=h.boxes s cs h1;have hk0:=ud _ _ kp IV;rw[<-h2]at hk0 hb hni IY;exact⟨arr,T,fr,fp,hk0.2.1.trans hb,tN,hr.mono hle (λb hb=>(ud b _ kp (hl b hb)).2),hn,hni,λb hb=>(ud b _ kp (hl b hb)).1,hk0.1,hk0.2.2.trans IY⟩;exact h1;rcases anZ k v av hk with⟨kp,h1⟩|h1;obtain⟨fp,hr,hn,hl⟩:=h.hands k v av h1;exact⟨fp,hr.mono hle (λb hb=>(ud b _ kp (hl b hb)).2),hn,λb hb=>(ud b _ kp (hl b hb)).1⟩;exact h1
theorem get_eq {i:Nat}{av:AV}(h:st.slots[i]?=some av):st.get i=av:=by simp[AS.get,ej,h]
theorem gK.bot (c:RC)(v:Value):gK c v .bot []:=⟨[v],by simp[Cut],[],[],rfl,rfl,rfl⟩
theorem ew.slot {w:World}(h:ew C g st a w hs)(i:Nat): ZN C g st a w i (st.get i):=by
 by_cases hi:i<st.slots.length;have:=ak hi;rw[get_eq this];exact h.slots i _ this;have:st.get i=.bot:=by simp[AS.get,ej,bC (Nat.le_of_not_lt hi)]
 rw[this];exact⟨[],gK.bot _ _,by simp,by simp⟩
theorem PG {hw:Nat->Nat}{w:World}{e:CT}{xs:aw e.D}(h:fQ hw w (.sl e) [v] xs fp):∃o n k,v=.slice o n k/\n=xs.length:=by obtain⟨u,hu,h⟩:=h;simp at hu;subst hu;rcases h with⟨⟨a,rfl⟩,rfl,_⟩|⟨b,o0,cap,arr,T,fr,fps,rfl,_⟩;exact⟨_,_,_,rfl,rfl⟩;exact⟨_,_,_,rfl,rfl⟩
theorem iq.borrow {x:AC}(r:iq c v x fp)(rt:ay lh):iq c v (x.borrow c.ep rt) []:=by
 cases x with
 |sl fl e xs=>
  cases fl with
  |own tag=>
   simp only[AC.borrow,iq]
   have hh:=PG r.1
   refine⟨cy,bh _,hh,λ_=>fQ.rep (λb o ho=> .inr ho) r.1,λr' t hp=>?_⟩
   cases rt with
   |none=>simp at hp
   |some r0=>
    cases tag with
    |none=>simp at hp
    |some t0=>
     simp at hp
     obtain⟨_,rfl⟩:=hp
     exact⟨(r.2 t0 rfl).1,(r.2 t0 rfl).2⟩
  |loc ep' pv'=>obtain⟨h1,h2⟩:=r;exact⟨rfl,h2⟩
  |arg _=>exact⟨rfl,r.2⟩
  |nest _ _ _ _ _ _=>exact⟨rfl,r.2⟩
  |part _ _ _ _=>exact⟨rfl,r.2⟩
  |fR tag i Ox=>
   obtain⟨h1,⟨k,hk,h3⟩,h4⟩:=r
   cases Ox with
   |none=>exact rfl
   |some Ox=>
   simp only[AC.borrow,iq]
   refine⟨cy,(h1 Ox rfl).1,?_,(h1 Ox rfl).2,λr' t hp=>?_⟩
   ·obtain⟨b,o0,cap,arr,T,fr,fps,rfl,_⟩:=h3
    exact⟨_,_,_,rfl,rfl⟩
   ·cases rt with
    |none=>simp at hp
    |some r0=>
     cases tag with
     |none=>simp at hp
     |some t0=>
      simp at hp
      obtain⟨_,rfl⟩:=hp
      exact h4 t0 rfl
 |int k n=>exact⟨r.1,rfl⟩
 |bool b=>exact⟨r.1,rfl⟩
 |str s=>exact⟨r.1,rfl⟩
 |kh=>exact⟨r.1,rfl⟩
 |ptr s off=>exact⟨r.1,r.2.1,rfl⟩
 |fn f=>exact⟨r.1,rfl⟩
 |un=>exact⟨r.1,rfl⟩
 |bot=>exact rfl
 |Dc fl e y i off=>
  cases fl with
  |own tag=>exact r
  |loc ep' pv'=>exact⟨rfl,r.2⟩
  |arg _=>exact⟨rfl,r.2⟩
  |nest _ _ _ _ _ _=>exact r.elim
  |part _ _ _ _=>exact r.elim
  |fR _ _ _=>exact r.elim
theorem bO.bg:∀{vs:jd}{xs:aw AC}{fp:fE},bO c vs xs fp->bO c vs (bg c.ep xs) []
 |[],[],_,_=>rfl
 |_::_,_::_,_,r=>by obtain⟨f1,f2,rfl,r1,r2⟩:=r;exact⟨[],[],rfl,r1.borrow none,bO.bg r2⟩
 |[],_::_,_,r=>r.elim
 |_::_,[],_,r=>r.elim
theorem iq.acX {x:AC}(r:iq c v (x.borrow c.ep none) []):iq c v (x.borrow 0 none) []:=by
 cases x with
 |sl fl e xs=>cases fl with|own tag=>simp only[AC.borrow,iq]at r⊢;exact⟨cy,cf _,r.2.2.1,λ_=>r.2.2.2.1 trivial,λ_ _ hp=>nomatch hp⟩|fR tag i ep=>cases ep<;>exact r|loc ep pv=>exact r|arg _=>exact r|nest _ _ _ _ _ _=>exact r|part _ _ _ _=>exact r
 |int _ _=>exact r
 |bool _=>exact r
 |str _=>exact r
 |kh=>exact r
 |ptr _ _=>exact r
 |fn _=>exact r
 |un=>exact r
 |bot=>exact r
 |Dc _ _ _ _ _=>exact r
theorem bO.acX:∀{vs:jd}{xs:aw AC}{fp:fE},bO c vs xs fp->bO c vs (Dn.bg 0 xs) []
 |[],[],_,_=>rfl
 |_::_,_::_,_,r=>by obtain⟨f1,f2,rfl,r1,r2⟩:=r;exact⟨[],[],rfl,(r1.borrow none).acX,bO.acX r2⟩
 |[],_::_,_,r=>r.elim
 |_::_,[],_,r=>r.elim
theorem bO.borrow (f:Nat->lh):∀{vs:jd}{xs:aw AC}{fp:fE}(j:Nat),bO c vs xs fp->bO c vs (iY c.ep f j xs) []
 |[],[],_,_,_=>rfl
 |_::_,_::_,_,j,r=>by obtain⟨f1,f2,rfl,r1,r2⟩:=r;exact⟨[],[],rfl,r1.borrow _,bO.borrow f (j+1) r2⟩
 |[],_::_,_,_,r=>r.elim
 |_::_,[],_,_,r=>r.elim
theorem rF.bg:∀{vs:jd}{xs:aw (Bool×aw AC)}{fp:fE},gK.rF c vs xs fp->gK.rF c vs (xs.map λx=>(x.1,Dn.bg c.ep x.2)) []
 |[],[],_,_=>rfl
 |_::_,_::_,_,r=>by obtain⟨f1,f2,rfl,⟨vs,hv,r1⟩,r2⟩:=r;exact⟨[],[],rfl,⟨vs,hv,r1.bg⟩,rF.bg r2⟩
 |[],_::_,_,r=>r.elim
 |_::_,[],_,r=>r.elim
theorem gK.bg {x:AV}(r:gK c v x fp):gK c v (x.bg c.ep) []:=by
 cases x with
 |val g cs=>obtain⟨vs,hv,r⟩:=r;exact⟨vs,hv,r.bg⟩
 |xC ts=>obtain⟨ws,hv,r⟩:=r;exact⟨ws,hv,rF.bg r⟩
theorem ew.ao9 {w:World}(h:ew C g st a w hs)(t:Nat): gK (db C g st w) (a.tmps.getD t undef) ((st.get t).borrow st.ep (.slot t)) []:=by obtain⟨fp,hr,_,_⟩:=h.slot t;cases hg:st.get t with|xC ts=>rw[hg]at hr;exact hr.bg|val gg cs=>rw[hg]at hr;obtain⟨vs,hv,hr⟩:=hr;exact⟨vs,hv,bO.borrow (c:=db C g st w) (.slot t) 0 hr⟩
theorem ak6 (c:RC)(v:Value):gK c v (ofConst v) []:=by unfold ofConst;split;exact⟨_,rfl,[],[],rfl,⟨rfl,rfl⟩,rfl⟩;exact⟨_,rfl,[],[],rfl,⟨rfl,rfl⟩,rfl⟩;exact⟨_,rfl,[],[],rfl,⟨by simp,rfl⟩,rfl⟩;exact⟨_,rfl,[],[],rfl,⟨rfl,rfl⟩,rfl⟩;exact gK.bot _ _
theorem ew.rd {w:World}(h:ew C g st a w hs)(x:Operand): gK (db C g st w) (a.eval x) (st.rd x) []:=by cases x with|tmp t=>exact h.ao9 t|const v=>exact ak6 _ v|func f=>exact⟨_,rfl,[],[],rfl,⟨rfl,rfl⟩,rfl⟩|global gl=>exact gK.bot _ _
theorem gw {d:Nat}{v:AV}:(st.put (some d) v).slots=st.slots.set d v:=by simp[AS.put,fV]
theorem ll {v:AV}:(st.put d v).boxes=st.boxes:=by cases d<;>rfl
theorem KW {v:AV}:(st.put d v).ep=st.ep:=by cases d<;>rfl
theorem UU {v:AV}:(st.put d v).iss=st.iss:=by cases d<;>rfl
theorem JW {v:AV}:nD (st.put d v)=nD st:=by funext t;simp[nD,UU]
theorem LD {v:AV}:jF (st.put d v)=jF st:=by funext s;simp[jF,ll]
theorem KA {d:Nat}(i:Nat):(a.put (some d) v).tmps.getD i undef=if i=d/\d<a.tmps.size then v else a.tmps.getD i undef:=by simp only[Act.put,dR,Array.getElem?_setIfInBounds];by_cases h:d=i;subst h;by_cases hs:d<a.tmps.size<;>simp[hs];simp[h,cR h]
theorem YR:(a.put d v).tmps.size=a.tmps.size:=by cases d<;>simp[Act.put]
theorem Ot:(a.put d v).defers=a.defers:=by cases d<;>rfl
end Go.Dn
