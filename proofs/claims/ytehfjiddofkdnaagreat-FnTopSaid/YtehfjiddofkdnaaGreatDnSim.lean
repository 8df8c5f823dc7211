import Derived.Test.YtehfjiddofkdnaaGreatDnRel
/- The relation between an abstract state and the model's frame and memory. -/
open Option renaming some->I
namespace Go.Dn
open Go.RowKit
variable {st:AS} {a:Act} {c:RC} {hs:Z (Value×AV)} {d:aS Nat} {Y:gw}
inductive oN where
 |slot (i:Nat)|box (s:Nat)|hand (k:Nat)|io
 deriving DecidableEq
structure Gh where
 hw:Nat->Nat
 β:Nat->Nat
 gb:Nat->Option oN
 hdr:Nat->Value
variable {g:Gh}
def rE (st:AS)t:=t%3≠2\/(nth st.iss (t/3/4096)).getD true=true
def mn (st:AS)(s:Nat):=∃a,st.boxes[s]?=I (I a)
structure Fr (M:Nat->Prop) (w w':World):Prop where
 os:w'.os=w.os
 tape:w'.tape=w.tape
 output:w'.output=w.output
 size:w.heap.size<=w'.heap.size
 block:∀b,b<w.heap.size->¬M b->w'.heap[b]?=w.heap[b]?
theorem Fr.refl M w:Fr M w w:=⟨rfl,rfl,rfl,bq _,λ_ _ _=>rfl⟩
theorem Fr.trans {M c w e f}(h:Fr M w e)(k:Fr c e f)(g:∀b,b<w.heap.size->c b->M b):Fr M w f:=⟨k.os.trans h.os,k.tape.trans h.tape,k.output.trans h.output,bf h.size k.size,λb a d=>(k.block b (Nat.lt_of_lt_of_le a h.size) (λm=>d (g b a m))).trans (h.block b a d)⟩
theorem Fr.below {w a}(h:Fr (λ_=>False) w a):Below w.heap.size w a:=⟨h.os,h.tape,h.output,h.size,λk b=>h.block k b (λm=>m)⟩
structure Ctx where
 A:Rg
 M:Nat->Prop
 w0:World
 ioV:List Value
 hA:∀k b o,A k b o->b<w0.heap.size/\¬M b
variable {C:Ctx}
def dQ (C:Ctx)(g:Gh)(st:AS)(w:World):RC:=⟨g.hw,g.β,C.A,g.hdr,rE st,st.ep,mn st,w⟩
def ag3 C g st(a:Act)w i c:=
 ∃Y,iY (dQ C g st w) (a.tmps.getD i undef) c Y/\Y.Nodup/\∀b∈Y,g.gb b=I (.slot i)
def asR C g st w s d:=
 ∃a T c Y,w.heap[g.β s]?=I (.cells a T c)/\wE a c/\cv (dQ C g st w) a.toList d Y/\Y.Nodup/\g.β s∉Y/\
  (∀b∈Y,g.gb b=I (.box s))/\g.gb (g.β s)=I (.box s)/\g.hw (g.β s)=0
def Sq C g st w k v a:=
 ∃Y,iY (dQ C g st w) v a Y/\Y.Nodup/\∀b∈Y,g.gb b=I (.hand k)
structure fL (C:Ctx) (g:Gh) (st:AS) (a:Act) (w:World) (hs:List (Value×AV)):Prop where
 defers:a.defers=[]
 size:a.tmps.size=st.slots.length
 bsize:st.boxes.length=st.slots.length
 slots:∀i av,st.slots[i]?=I av->ag3 C g st a w i av
 boxes:∀s cs,st.boxes[s]?=I (I cs)->asR C g st w s cs
 hands:∀k v av,hs[k]?=I (v,av)->Sq C g st w k v av
 ju:∀b x,g.gb b=I x->b<w.heap.size/\(C.w0.heap.size<=b\/C.M b)
 frame:Fr C.M C.w0 w
 io:∃Y,cv (dQ C g st w) C.ioV st.io Y/\Y.Nodup/\∀b∈Y,g.gb b=I .io
def ub C st a w:=∃g,fL C g st a w []
theorem fL.Xh {w}(h:fL C g st a w hs){b x}(f:g.gb b=I x)k o:¬C.A k b o:=by intro e;have d:=C.hA k b o e;rcases(h.ju b x f).2 with c|c;omega;exact d.2 c
theorem fL.step {m c z w q B}(h:fL C g st a w hs)(y:oN->Prop)(p:(dQ C g st w).Le (dQ C m c q))(K:z.defers=[])(U:z.tmps.size=c.slots.length)(J:c.boxes.length=c.slots.length)(L:Fr C.M C.w0 q)(R:∀b x,m.gb b=I x->b<q.heap.size/\(C.w0.heap.size<=b\/C.M b))(d:∀b x,y x->g.gb b=I x->m.gb b=I x/\q.heap[b]?=w.heap[b]?/\m.hw b=g.hw b)(S:∀i j,c.slots[i]?=I j-> (y (.slot i)/\st.slots[i]?=I j/\z.tmps.getD i undef=a.tmps.getD i undef)\/ag3 C m c z q i j)(H:∀s u,c.boxes[s]?=I (I u)-> (y (.box s)/\st.boxes[s]?=I (I u)/\m.β s=g.β s)\/asR C m c q s u)(N:∀k v j,B[k]?=I (v,j)-> (y (.hand k)/\hs[k]?=I (v,j))\/Sq C m c q k v j)(P:(y .io/\c.io=st.io)\/∃Y,cv (dQ C m c q) C.ioV c.io Y/\Y.Nodup/\∀b∈Y,m.gb b=I .io): fL C m c z q B:=by refine⟨K,U,J,λi j X=>?_,λs u hs=>?_,λk v j Z=>?_,R,L,?_⟩;rotate_right;rcases P with⟨l,f⟩|f;obtain⟨Y,t,r,n⟩:=h.io;refine⟨Y,?_,r,λb e=>(d b _ l (n b e)).1⟩;rw[f];exact t.mono p (λb e=>(d b _ l (n b e)).2);exact f;rcases S i j X with⟨l,f,F⟩|f;obtain⟨Y,t,r,n⟩:=h.slots i j f;refine⟨Y,?_,r,λb e=>(d b _ l (n b e)).1⟩;rw[F];exact t.mono p (λb e=>(d b _ l (n b e)).2);exact f;rcases H s u hs with⟨l,f,F⟩|f;obtain⟨E,T,V,Y,e,MY,t,r,A,n,Q,D⟩:=h.boxes s u f;have o:=d _ _ l Q;rw[<-F]at o e A D;exact⟨E,T,V,Y,o.2.1.trans e,MY,t.mono p (λb e=>(d b _ l (n b e)).2),r,A,λb e=>(d b _ l (n b e)).1,o.1,o.2.2.trans D⟩;exact f;rcases N k v j Z with⟨l,f⟩|f;obtain⟨Y,t,r,n⟩:=h.hands k v j f;exact⟨Y,t.mono p (λb e=>(d b _ l (n b e)).2),r,λb e=>(d b _ l (n b e)).1⟩;exact f
theorem get_eq {i a}(h:st.slots[i]?=I a):st.get i=a:=by simp[AS.get,fJ,h]
theorem iY.bot c v:iY c v .bot []:=⟨[v],by simp[Cut],[],[],rfl,rfl,rfl⟩
theorem fL.slot {w}(h:fL C g st a w hs)i: ag3 C g st a w i (st.get i):=by
 by_cases b:i<st.slots.length;have:=ah b;rw[get_eq this];exact h.slots i _ this;have:st.get i=.bot:=by simp[AS.get,fJ,cn (nC b)]
 rw[this];exact⟨[],iY.bot _ _,aD,aD⟩
theorem Ro {j w e v}{d:Z e.D}(h:gX j w (.sl e) [v] d Y):∃o n k,v=.slice o n k/\n=d.length:=by obtain⟨u,c,h⟩:=h;simp at c;subst c;rcases h with⟨⟨a,rfl⟩,rfl,_⟩|⟨b,m,g,f,T,l,i,rfl,_⟩;exact⟨_,_,_,rfl,rfl⟩;exact⟨_,_,_,rfl,rfl⟩
theorem kh.borrow {v x}(r:kh c v x Y)q:kh c v (x.borrow c.ep q) []:=by
 cases x with
 |sl j e N=>
  cases j with
  |own g=>
   simp only[AC.borrow,kh]
   have E:=Ro r.1
   refine⟨B,bq _,E,λ_=>gX.rep (λb o F=> .inr F) r.1,λH t d=>?_⟩
   cases q with
   |none=>simp at d
   |some J=>
    cases g with
    |none=>simp at d
    |some t0=>
     simp at d
     obtain⟨_,rfl⟩:=d
     exact⟨(r.2 t0 rfl).1,(r.2 t0 rfl).2⟩
  |loc h p=>obtain⟨l,A⟩:=r;exact⟨rfl,A⟩
  |arg _=>exact⟨rfl,r.2⟩
  |nest _ _ _ _ _ _=>exact⟨rfl,r.2⟩
  |part _ _ _ _=>exact⟨rfl,r.2⟩
  |im g i a=>
   obtain⟨l,⟨k,L,C⟩,D⟩:=r
   cases a with
   |none=>exact rfl
   |some a=>
   simp only[AC.borrow,kh]
   refine⟨B,(l a rfl).1,?_,(l a rfl).2,λH t d=>?_⟩
   ·obtain⟨b,M,w,u,T,K,z,rfl,_⟩:=C
    exact⟨_,_,_,rfl,rfl⟩
   ·cases q with
    |none=>simp at d
    |some J=>
     cases g with
     |none=>simp at d
     |some t0=>
      simp at d
      obtain⟨_,rfl⟩:=d
      exact D t0 rfl
 |int k n=>exact⟨r.1,rfl⟩
 |bool b=>exact⟨r.1,rfl⟩
 |str s=>exact⟨r.1,rfl⟩
 |mP=>exact⟨r.1,rfl⟩
 |ptr s m=>exact⟨r.1,r.2.1,rfl⟩
 |fn f=>exact⟨r.1,rfl⟩
 |un=>exact⟨r.1,rfl⟩
 |bot=>exact rfl
 |I7 j e y i m=>
  cases j with
  |own g=>exact r
  |loc h p=>exact⟨rfl,r.2⟩
  |arg _=>exact⟨rfl,r.2⟩
  |nest _ _ _ _ _ _=>exact r.elim
  |part _ _ _ _=>exact r.elim
  |im _ _ _=>exact r.elim
theorem cv.bz:∀{a:oz}{b:Z AC}{Y:gw},cv c a b Y->cv c a (bz c.ep b) []
 |[],[],_,_=>rfl
 |_::_,_::_,_,r=>by obtain⟨f1,f2,rfl,d,e⟩:=r;exact⟨[],[],rfl,d.borrow none,cv.bz e⟩
 |[],_::_,_,r=>r.elim
 |_::_,[],_,r=>r.elim
theorem kh.aj0 {v}{x:AC}(r:kh c v (x.borrow c.ep none) []):kh c v (x.borrow 0 none) []:=by
 cases x with
 |sl d e h=>cases d with|own a=>simp only[AC.borrow,kh]at r⊢;exact⟨B,cg _,r.2.2.1,λ_=>r.2.2.2.1 trivial,λ_ _ f=>nomatch f⟩|im a i b=>cases b<;>exact r|loc b g=>exact r|arg _=>exact r|nest _ _ _ _ _ _=>exact r|part _ _ _ _=>exact r
 |int _ _=>exact r
 |bool _=>exact r
 |str _=>exact r
 |mP=>exact r
 |ptr _ _=>exact r
 |fn _=>exact r
 |un=>exact r
 |bot=>exact r
 |I7 _ _ _ _ _=>exact r
theorem cv.aj0:∀{a:oz}{b:Z AC}{Y:gw},cv c a b Y->cv c a (Dn.bz 0 b) []
 |[],[],_,_=>rfl
 |_::_,_::_,_,r=>by obtain⟨f1,f2,rfl,d,e⟩:=r;exact⟨[],[],rfl,(d.borrow none).aj0,cv.aj0 e⟩
 |[],_::_,_,r=>r.elim
 |_::_,[],_,r=>r.elim
theorem cv.borrow (f:Nat->sn):∀{a:oz}{b:Z AC}{Y:gw}(j:Nat),cv c a b Y->cv c a (ll c.ep f j b) []
 |[],[],_,_,_=>rfl
 |_::_,_::_,_,j,r=>by obtain⟨f1,f2,rfl,d,e⟩:=r;exact⟨[],[],rfl,d.borrow _,cv.borrow f (j+1) e⟩
 |[],_::_,_,_,r=>r.elim
 |_::_,[],_,_,r=>r.elim
theorem xy.bz:∀{a:oz}{b:Z (Bool×Z AC)}{Y:gw},iY.xy c a b Y->iY.xy c a (b.map λx=>(x.1,Dn.bz c.ep x.2)) []
 |[],[],_,_=>rfl
 |_::_,_::_,_,r=>by obtain⟨f1,f2,rfl,⟨a,d,e⟩,f⟩:=r;exact⟨[],[],rfl,⟨a,d,e.bz⟩,xy.bz f⟩
 |[],_::_,_,r=>r.elim
 |_::_,[],_,r=>r.elim
theorem iY.bz {v x}(r:iY c v x Y):iY c v (x.bz c.ep) []:=by
 cases x with
 |val g e=>obtain⟨b,a,r⟩:=r;exact⟨b,a,r.bz⟩
 |DZ f=>obtain⟨d,a,r⟩:=r;exact⟨d,a,xy.bz r⟩
theorem fL.atX {w}(h:fL C g st a w hs)t: iY (dQ C g st w) (a.tmps.getD t undef) ((st.get t).borrow st.ep (.slot t)) []:=by obtain⟨Y,b,_,_⟩:=h.slot t;cases d:st.get t with|DZ k=>rw[d]at b;exact b.bz|val j i=>rw[d]at b;obtain⟨f,e,b⟩:=b;exact⟨f,e,cv.borrow (c:=dQ C g st w) (.slot t) 0 b⟩
theorem arC c v:iY c v (ofConst v) []:=by unfold ofConst;split;exact⟨_,rfl,[],[],rfl,⟨rfl,rfl⟩,rfl⟩;exact⟨_,rfl,[],[],rfl,⟨rfl,rfl⟩,rfl⟩;exact⟨_,rfl,[],[],rfl,⟨aD,rfl⟩,rfl⟩;exact⟨_,rfl,[],[],rfl,⟨rfl,rfl⟩,rfl⟩;exact iY.bot _ _
theorem fL.rd {w}(h:fL C g st a w hs)x: iY (dQ C g st w) (a.eval x) (st.rd x) []:=by cases x with|tmp t=>exact h.atX t|const v=>exact arC _ v|func f=>exact⟨_,rfl,[],[],rfl,⟨rfl,rfl⟩,rfl⟩|global b=>exact iY.bot _ _
theorem iX {d v}:(st.put (I d) v).slots=st.slots.set d v:=by simp[AS.put,iA]
theorem oA {v}:(st.put d v).boxes=st.boxes:=by cases d<;>rfl
theorem SE {v}:(st.put d v).ep=st.ep:=by cases d<;>rfl
theorem acz {v}:(st.put d v).iss=st.iss:=by cases d<;>rfl
theorem Ra {v}:rE (st.put d v)=rE st:=by funext t;simp[rE,acz]
theorem Tn {v}:mn (st.put d v)=mn st:=by funext s;simp[mn,oA]
theorem Se {d:Nat}{v}i:(a.put (I d) v).tmps.getD i undef=if i=d/\d<a.tmps.size then v else a.tmps.getD i undef:=by simp only[Act.put,dR,Array.getElem?_setIfInBounds];by_cases h:d=i;subst h;by_cases hs:d<a.tmps.size<;>simp[hs];simp[h,cI h]
theorem af7 {v}:(a.put d v).tmps.size=a.tmps.size:=by cases d<;>simp[Act.put]
theorem Wd {v}:(a.put d v).defers=a.defers:=by cases d<;>rfl
end Go.Dn
