import Derived.Test.YthllnaiaikjelaaGreatDnRel
/- The relation between an abstract state and the model's frame and memory. -/
namespace Go.Dn
open Go.RowKit
variable {st:AS} {a:Act} {c:RC} {hs:ar (Value×AV)} {d:au Nat} {fp:ei}
inductive ki where
 |slot (i:Nat)|box (s:Nat)|hand (k:Nat)|io
 deriving DecidableEq
structure Gh where
 hw:Nat->Nat
 β:Nat->Nat
 eC:Nat->Option ki
 hdr:Nat->Value
variable {g:Gh}
def nr (st:AS)(t:Nat):Prop:=t%3≠2\/(nth st.iss (t/3/4096)).getD true=true
def ij (st:AS)(s:Nat):Prop:=∃cs,st.boxes[s]?=some (some cs)
structure Fr (M:Nat->Prop) (w w':World):Prop where
 os:w'.os=w.os
 tape:w'.tape=w.tape
 output:w'.output=w.output
 size:w.heap.size<=w'.heap.size
 block:∀b,b<w.heap.size->¬M b->w'.heap[b]?=w.heap[b]?
theorem Fr.refl (M:Nat->Prop)(w:World):Fr M w w:=⟨rfl,rfl,rfl,ba _,λ_ _ _=>rfl⟩
theorem Fr.trans {M M':Nat->Prop}{w w1 w2:World}(h:Fr M w w1)(k:Fr M' w1 w2)(hM:∀b,b<w.heap.size->M' b->M b):Fr M w w2:=⟨k.os.trans h.os,k.tape.trans h.tape,k.output.trans h.output,aF h.size k.size,λb hb hm=>(k.block b (iH hb h.size) (λm=>hm (hM b hb m))).trans (h.block b hb hm)⟩
theorem Fr.below {w w':World}(h:Fr (λ_=>False) w w'):Below w.heap.size w w':=⟨h.os,h.tape,h.output,h.size,λk hk=>h.block k hk (λm=>m)⟩
structure Ctx where
 A:Rg
 M:Nat->Prop
 w0:World
 ioV:List Value
 hA:∀k b o,A k b o->b<w0.heap.size/\¬M b
variable {C:Ctx}
def cP (C:Ctx)(g:Gh)(st:AS)(w:World):RC:=⟨g.hw,g.β,C.A,g.hdr,nr st,st.ep,ij st,w⟩
def aeP (C:Ctx)(g:Gh)(st:AS)(a:Act)(w:World)(i:Nat)(av:AV):Prop:=
 ∃fp,gj (cP C g st w) (a.tmps.getD i undef) av fp/\fp.Nodup/\∀b∈fp,g.eC b=some (.slot i)
def apG (C:Ctx)(g:Gh)(st:AS)(w:World)(s:Nat)(cs:ar AC):Prop:=
 ∃arr T fr fp,w.heap[g.β s]?=some (.cells arr T fr)/\tp arr fr/\bE (cP C g st w) arr.toList cs fp/\fp.Nodup/\g.β s∉fp/\
  (∀b∈fp,g.eC b=some (.box s))/\g.eC (g.β s)=some (.box s)/\g.hw (g.β s)=0
def Rq (C:Ctx)(g:Gh)(st:AS)(w:World)(k:Nat)(v:Value)(av:AV):Prop:=
 ∃fp,gj (cP C g st w) v av fp/\fp.Nodup/\∀b∈fp,g.eC b=some (.hand k)
structure dN (C:Ctx) (g:Gh) (st:AS) (a:Act) (w:World) (hs:List (Value×AV)):Prop where
 defers:a.defers=[]
 size:a.tmps.size=st.slots.length
 bsize:st.boxes.length=st.slots.length
 slots:∀i av,st.slots[i]?=some av->aeP C g st a w i av
 boxes:∀s cs,st.boxes[s]?=some (some cs)->apG C g st w s cs
 hands:∀k v av,hs[k]?=some (v,av)->Rq C g st w k v av
 fW:∀b x,g.eC b=some x->b<w.heap.size/\(C.w0.heap.size<=b\/C.M b)
 frame:Fr C.M C.w0 w
 io:∃fp,bE (cP C g st w) C.ioV st.io fp/\fp.Nodup/\∀b∈fp,g.eC b=some .io
def pL (C:Ctx)(st:AS)(a:Act)(w:World):Prop:=∃g,dN C g st a w []
theorem dN.RX {w:World}(h:dN C g st a w hs){b:Nat}{x:ki}(hx:g.eC b=some x)(k:Bool)(o:Nat):¬C.A k b o:=by intro hA;have h1:=C.hA k b o hA;rcases(h.fW b x hx).2 with h2|h2;omega;exact h1.2 h2
theorem dN.step {g':Gh}{st':AS}{a':Act}{w w':World}{yu:ar (Value×AV)}(h:dN C g st a w hs)(Kp:ki->Prop)(hle:(cP C g st w).Le (cP C g' st' w'))(azY:a'.defers=[])(xx:a'.tmps.size=st'.slots.length)(azX:st'.boxes.length=st'.slots.length)(iA:Fr C.M C.w0 w')(LM:∀b x,g'.eC b=some x->b<w'.heap.size/\(C.w0.heap.size<=b\/C.M b))(nR:∀b x,Kp x->g.eC b=some x->g'.eC b=some x/\w'.heap[b]?=w.heap[b]?/\g'.hw b=g.hw b)(Vv:∀i av,st'.slots[i]?=some av-> (Kp (.slot i)/\st.slots[i]?=some av/\a'.tmps.getD i undef=a.tmps.getD i undef)\/aeP C g' st' a' w' i av)(zn:∀s cs,st'.boxes[s]?=some (some cs)-> (Kp (.box s)/\st.boxes[s]?=some (some cs)/\g'.β s=g.β s)\/apG C g' st' w' s cs)(aqt:∀k v av,yu[k]?=some (v,av)-> (Kp (.hand k)/\hs[k]?=some (v,av))\/Rq C g' st' w' k v av)(P5:(Kp .io/\st'.io=st.io)\/∃fp,bE (cP C g' st' w') C.ioV st'.io fp/\fp.Nodup/\∀b∈fp,g'.eC b=some .io): dN C g' st' a' w' yu:=by refine⟨azY,xx,azX,λi av hi=>?_,λs cs hs=>?_,λk v av hk=>?_,LM,iA,?_⟩;rotate_right;rcases P5 with⟨kp,h1⟩|h1;obtain⟨fp,hr,hn,hl⟩:=h.io;refine⟨fp,?_,hn,λb hb=>(nR b _ kp (hl b hb)).1⟩;rw[h1];exact hr.mono hle (λb hb=>(nR b _ kp (hl b hb)).2);exact h1;rcases Vv i av hi with⟨kp,h1,h2⟩|h1;obtain⟨fp,hr,hn,hl⟩:=h.slots i av h1;refine⟨fp,?_,hn,λb hb=>(nR b _ kp (hl b hb)).1⟩;rw[h2];exact hr.mono hle (λb hb=>(nR b _ kp (hl b hb)).2);exact h1;rcases zn s cs hs with⟨kp,h1,h2⟩|h1;obtain⟨arr,T,fr,fp,hb,uI,hr,hn,hni,hl,LW,Ob⟩:=h.boxes s cs h1;have hk0:=nR _ _ kp LW;rw[<-h2]at hk0 hb hni Ob;exact⟨arr,T,fr,fp,hk0.2.1.trans hb,uI,hr.mono hle (λb hb=>(nR b _ kp (hl b hb)).2),hn,hni,λb hb=>(nR b _ kp (hl b hb)).1,hk0.1,hk0.2.2.trans Ob⟩;exact h1;rcases aqt k v av hk with⟨kp,h1⟩|h1;obtain⟨fp,hr,hn,hl⟩:=h.hands k v av h1;exact⟨fp,hr.mono hle (λb hb=>(nR b _ kp (hl b hb)).2),hn,λb hb=>(nR b _ kp (hl b hb)).1⟩;exact h1
theorem get_eq {i:Nat}{av:AV}(h:st.slots[i]?=some av):st.get i=av:=by simp[AS.get,dY,h]
theorem gj.bot (c:RC)(v:Value):gj c v .bot []:=⟨[v],by simp[Cut],[],[],rfl,rfl,rfl⟩
theorem dN.slot {w:World}(h:dN C g st a w hs)(i:Nat): aeP C g st a w i (st.get i):=by
 by_cases hi:i<st.slots.length;have:=al hi;rw[get_eq this];exact h.slots i _ this;have:st.get i=.bot:=by simp[AS.get,dY,bL (Nat.le_of_not_lt hi)]
 rw[this];exact⟨[],gj.bot _ _,by simp,by simp⟩
theorem QC {hw:Nat->Nat}{w:World}{e:CT}{v:Value}{xs:ar e.D}(h:eU hw w (.sl e) [v] xs fp):∃o n k,v=.slice o n k/\n=xs.length:=by obtain⟨u,hu,h⟩:=h;simp at hu;subst hu;rcases h with⟨⟨a,rfl⟩,rfl,_⟩|⟨b,o0,cap,arr,T,fr,fps,rfl,_⟩;exact⟨_,_,_,rfl,rfl⟩;exact⟨_,_,_,rfl,rfl⟩
theorem iD.borrow {v:Value}{x:AC}(r:iD c v x fp)(rt:au lW):iD c v (x.borrow c.ep rt) []:=by
 cases x with
 |sl fl e xs=>
  cases fl with
  |own tag=>
   simp only[AC.borrow,iD]
   have hh:=QC r.1
   refine⟨bF,ba _,hh,λ_=>eU.rep (λb o ho=> .inr ho) r.1,λr' t hp=>?_⟩
   cases rt with
   |none=>simp at hp
   |some r0=>
    cases tag with
    |none=>simp at hp
    |some t0=>
     simp at hp
     obtain⟨_,rfl⟩:=hp
     exact⟨(r.2 t0 rfl).1,(r.2 t0 rfl).2⟩
  |loc ep' pv'=>obtain⟨h1,h2⟩:=r;exact⟨rfl,h2⟩
  |arg _=>exact⟨rfl,r.2⟩
  |nest _ _ _ _ _ _=>exact⟨rfl,r.2⟩
  |part _ _ _ _=>exact⟨rfl,r.2⟩
  |fL tag i UY=>
   obtain⟨h1,⟨k,hk,h3⟩,h4⟩:=r
   cases UY with
   |none=>exact rfl
   |some UY=>
   simp only[AC.borrow,iD]
   refine⟨bF,(h1 UY rfl).1,?_,(h1 UY rfl).2,λr' t hp=>?_⟩
   ·obtain⟨b,o0,cap,arr,T,fr,fps,rfl,_⟩:=h3
    exact⟨_,_,_,rfl,rfl⟩
   ·cases rt with
    |none=>simp at hp
    |some r0=>
     cases tag with
     |none=>simp at hp
     |some t0=>
      simp at hp
      obtain⟨_,rfl⟩:=hp
      exact h4 t0 rfl
 |int k n=>exact⟨r.1,rfl⟩
 |bool b=>exact⟨r.1,rfl⟩
 |str s=>exact⟨r.1,rfl⟩
 |kS=>exact⟨r.1,rfl⟩
 |ptr s off=>exact⟨r.1,r.2.1,rfl⟩
 |fn f=>exact⟨r.1,rfl⟩
 |un=>exact⟨r.1,rfl⟩
 |bot=>exact rfl
 |HM fl e y i off=>
  cases fl with
  |own tag=>exact r
  |loc ep' pv'=>exact⟨rfl,r.2⟩
  |arg _=>exact⟨rfl,r.2⟩
  |nest _ _ _ _ _ _=>exact r.elim
  |part _ _ _ _=>exact r.elim
  |fL _ _ _=>exact r.elim
theorem bE.bc:∀{vs:iW}{xs:ar AC}{fp:ei},bE c vs xs fp->bE c vs (bc c.ep xs) []
 |[],[],_,_=>rfl
 |_::_,_::_,_,r=>by obtain⟨f1,f2,rfl,r1,r2⟩:=r;exact⟨[],[],rfl,r1.borrow none,bE.bc r2⟩
 |[],_::_,_,r=>r.elim
 |_::_,[],_,r=>r.elim
theorem iD.aht {v:Value}{x:AC}(r:iD c v (x.borrow c.ep none) []):iD c v (x.borrow 0 none) []:=by
 cases x with
 |sl fl e xs=>cases fl with|own tag=>simp only[AC.borrow,iD]at r⊢;exact⟨bF,eh _,r.2.2.1,λ_=>r.2.2.2.1 trivial,λ_ _ hp=>nomatch hp⟩|fL tag i ep=>cases ep<;>exact r|loc ep pv=>exact r|arg _=>exact r|nest _ _ _ _ _ _=>exact r|part _ _ _ _=>exact r
 |int _ _=>exact r
 |bool _=>exact r
 |str _=>exact r
 |kS=>exact r
 |ptr _ _=>exact r
 |fn _=>exact r
 |un=>exact r
 |bot=>exact r
 |HM _ _ _ _ _=>exact r
theorem bE.aht:∀{vs:iW}{xs:ar AC}{fp:ei},bE c vs xs fp->bE c vs (Dn.bc 0 xs) []
 |[],[],_,_=>rfl
 |_::_,_::_,_,r=>by obtain⟨f1,f2,rfl,r1,r2⟩:=r;exact⟨[],[],rfl,(r1.borrow none).aht,bE.aht r2⟩
 |[],_::_,_,r=>r.elim
 |_::_,[],_,r=>r.elim
theorem bE.borrow (f:Nat->lW):∀{vs:iW}{xs:ar AC}{fp:ei}(j:Nat),bE c vs xs fp->bE c vs (jl c.ep f j xs) []
 |[],[],_,_,_=>rfl
 |_::_,_::_,_,j,r=>by obtain⟨f1,f2,rfl,r1,r2⟩:=r;exact⟨[],[],rfl,r1.borrow _,bE.borrow f (j+1) r2⟩
 |[],_::_,_,_,r=>r.elim
 |_::_,[],_,_,r=>r.elim
theorem uy.bc:∀{vs:iW}{xs:ar (Bool×ar AC)}{fp:ei},gj.uy c vs xs fp->gj.uy c vs (xs.map λx=>(x.1,Dn.bc c.ep x.2)) []
 |[],[],_,_=>rfl
 |_::_,_::_,_,r=>by obtain⟨f1,f2,rfl,⟨vs,hv,r1⟩,r2⟩:=r;exact⟨[],[],rfl,⟨vs,hv,r1.bc⟩,uy.bc r2⟩
 |[],_::_,_,r=>r.elim
 |_::_,[],_,r=>r.elim
theorem gj.bc {v:Value}{x:AV}(r:gj c v x fp):gj c v (x.bc c.ep) []:=by
 cases x with
 |val g cs=>obtain⟨vs,hv,r⟩:=r;exact⟨vs,hv,r.bc⟩
 |Af ts=>obtain⟨ws,hv,r⟩:=r;exact⟨ws,hv,uy.bc r⟩
theorem dN.aqX {w:World}(h:dN C g st a w hs)(t:Nat): gj (cP C g st w) (a.tmps.getD t undef) ((st.get t).borrow st.ep (.slot t)) []:=by obtain⟨fp,hr,_,_⟩:=h.slot t;cases hg:st.get t with|Af ts=>rw[hg]at hr;exact hr.bc|val gg cs=>rw[hg]at hr;obtain⟨vs,hv,hr⟩:=hr;exact⟨vs,hv,bE.borrow (c:=cP C g st w) (.slot t) 0 hr⟩
theorem aov (c:RC)(v:Value):gj c v (ofConst v) []:=by unfold ofConst;split;exact⟨_,rfl,[],[],rfl,⟨rfl,rfl⟩,rfl⟩;exact⟨_,rfl,[],[],rfl,⟨rfl,rfl⟩,rfl⟩;exact⟨_,rfl,[],[],rfl,⟨by simp,rfl⟩,rfl⟩;exact⟨_,rfl,[],[],rfl,⟨rfl,rfl⟩,rfl⟩;exact gj.bot _ _
theorem dN.rd {w:World}(h:dN C g st a w hs)(x:Operand): gj (cP C g st w) (a.eval x) (st.rd x) []:=by cases x with|tmp t=>exact h.aqX t|const v=>exact aov _ v|func f=>exact⟨_,rfl,[],[],rfl,⟨rfl,rfl⟩,rfl⟩|global gl=>exact gj.bot _ _
theorem gi {d:Nat}{v:AV}:(st.put (some d) v).slots=st.slots.set d v:=by simp[AS.put,fE]
theorem mx {v:AV}:(st.put d v).boxes=st.boxes:=by cases d<;>rfl
theorem RB {v:AV}:(st.put d v).ep=st.ep:=by cases d<;>rfl
theorem aau {v:AV}:(st.put d v).iss=st.iss:=by cases d<;>rfl
theorem Qx {v:AV}:nr (st.put d v)=nr st:=by funext t;simp[nr,aau]
theorem Sf {v:AV}:ij (st.put d v)=ij st:=by funext s;simp[ij,mx]
theorem Rc {d:Nat}{v:Value}(i:Nat):(a.put (some d) v).tmps.getD i undef=if i=d/\d<a.tmps.size then v else a.tmps.getD i undef:=by simp only[Act.put,db,Array.getElem?_setIfInBounds];by_cases h:d=i;subst h;by_cases hs:d<a.tmps.size<;>simp[hs];simp[h,cX h]
theorem adQ {v:Value}:(a.put d v).tmps.size=a.tmps.size:=by cases d<;>simp[Act.put]
theorem UR {v:Value}:(a.put d v).defers=a.defers:=by cases d<;>rfl
end Go.Dn
