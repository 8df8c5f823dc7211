import Derived.Test.YtehfjiddofkdnaaGreatDnOps8
/- A call by value: what a callee promises, and what the caller makes of it. -/
open Bool renaming false->G,true->O
open Option renaming none->W,some->I
namespace Go.Dn
open Go.RowKit
variable {P:Program} {C:Ctx} {st:AS} {a:Act} {w:World} {R:Type} {r:R}
variable {x:AC} {args:Array Operand} {X:Array TypeId} {Y:IY} {g:Gh} {hw:Nat->Nat} {hdr:Nat->Value} {f:Operand} {c c':RC} {cs:Z AC} {d:aS Nat} {fp:gw}
def gZ (A:Rg)(hw:Nat->Nat)(w:World):RC:=⟨hw,λ_=>0,A,λ_=>undef,λ_=>False,0,λ_=>False,w⟩
def uh (A:Rg)(w:World):oz->Z AV->Prop
 |[],[]=>True
 |v::a,x::b=>iY (gZ A (λ_=>0) w) v x []/\uh A w a b
 |_,_=>False
def aAL P(f:Nat)(F:JD)y g cs d:=
 ∀(A:Rg)(w:World)(i:Value)(j:oz)(hw:Nat->Nat)(fp:gw),(∀k b o,A k b o->b<w.heap.size/\b∉fp)->iY (gZ A hw w) i (.val g cs) fp->fp.Nodup->(∀b∈fp,b<w.heap.size)->uh A w j d->
  Calls P f (i::j).toArray w λe h=>∃v c l a,e=.returned v/\iY (gZ A c h) v (F.av y) l/\iY (gZ A c h) i (.val g (F.back y)) a/\a.Nodup/\
   (∀b∈a,b<h.heap.size/\(b∈fp\/w.heap.size<=b))/\Fr (λb=>b∈fp) w h
def aud P(f:Nat)(F:JD)y cs l:=
 ∀(A:Rg)(w:World)(b:Nat)(p:oz)(d:Array Value)(T:TypeId)(n:Nat×Nat)(hw:Nat->Nat)(fp:gw),(∀k a o,A k a o->a<w.heap.size/\a≠b/\a∉fp)->
  w.heap[b]?=I (.cells d T n)->wE d n->cv (gZ A hw w) d.toList cs fp->fp.Nodup->b∉fp->(∀a∈fp,a<w.heap.size)->hw b=0->uh A w p l->
  Calls P f (.pointer (I ⟨b,0,W⟩)::p).toArray w λe h=>∃v j m g q i c,e=.returned v/\iY (gZ A j h) v (F.av y) m/\h.heap[b]?=I (.cells g q i)/\wE g i/\
   cv (gZ A j h) g.toList (F.back y) c/\c.Nodup/\b∉c/\(∀a∈c,a<h.heap.size/\(a∈fp\/w.heap.size<=a))/\m.Nodup/\(∀a∈m,a<h.heap.size/\(a∈fp\/w.heap.size<=a)/\a∉c/\a≠b)/\Fr (λa=>a=b\/a∈fp) w h
def asV P(f:Nat)(F:JD)y h:=
 ∀(A:Rg)(w:World)(g:oz),(∀k b o,A k b o->b<w.heap.size)->uh A w g h->
  Calls P f g.toArray w λe c=>∃b a T d hw,e=.returned (.pointer (I ⟨b,0,W⟩))/\w.heap.size<=b/\c.heap[b]?=I (.cells a T d)/\wE a d/\cv (gZ A hw c) a.toList (F.back y) []/\Fr (λ_=>False) w c
def rC P(f:Nat)F:=
 ∀(d:Z AV)(y:F.R),F.fn d=I y->
  (∃fn c,P.funcs[f]?=I fn/\fn.body=I c/\(fn.name== "runtime.NumGoroutine")=G)/\
  (F.io=G->F.bx=G->∀(A:Rg)(w:World)(i:oz),(∀k b o,A k b o->b<w.heap.size)->uh A w i d->
    Calls P f i.toArray w λe h=>∃v hw fp,e=.returned v/\iY (gZ A hw h) v (F.res y) fp/\fp.Nodup/\(∀b∈fp,w.heap.size<=b/\b<h.heap.size)/\Fr (λ_=>False) w h)/\
  (F.io=O->∀g cs a,d=.val g cs::a->aAL P f F y g cs a)/\
  (F.bx=O->∀cs a,d=.val O cs::a->aud P f F y cs a)/\
  (F.pr=O->asV P f F y d)
theorem wh {v}(h:kh c v x fp)(hf:x.mj=O):fp=[]/\kh c' v x []:=by cases x with|int k n=>exact⟨h.2,h.1,rfl⟩|bool b=>exact⟨h.2,h.1,rfl⟩|str s=>exact⟨h.2,h.1,rfl⟩|fn f=>exact⟨h.2,h.1,rfl⟩|_=>cases hf
theorem PL {c':RC}:∀{d:oz}{b:Z AC}{fp:gw},cv c d b fp->b.all AC.mj=O->fp=[]/\cv c' d b []
 |[],[],_,h,_=>⟨h,rfl⟩
 |_::_,_::_,_,h,a=>by obtain⟨f1,f2,rfl,e,f⟩:=h;simp only[cC,af]at a;obtain⟨rfl,k1⟩:=wh (c':=c') e a.1;obtain⟨rfl,k2⟩:=PL (c':=c') f a.2;exact⟨rfl,[],[],rfl,k1,k2⟩
 |[],_::_,_,h,_=>h.elim
 |_::_,[],_,h,_=>h.elim
theorem aec:∀{b:oz}{X:Z (Bool×Z AC)}{fp:gw},iY.xy c b X fp->(X.all λx=>x.2.all AC.mj)=O->iY.xy c' b X []
 |[],[],_,_,_=>rfl
 |_::_,_::_,_,h,a=>by obtain⟨f1,f2,rfl,⟨g,f,d⟩,e⟩:=h;simp only[cC,af]at a;exact⟨[],[],rfl,⟨g,f,(PL d a.1).2⟩,aec e a.2⟩
 |[],_::_,_,h,_=>h.elim
 |_::_,[],_,h,_=>h.elim
theorem WB {v x}(h:iY c v x fp)(hf:x.mj=O):iY c' v x []:=by
 cases x with
 |val g cs=>obtain⟨b,a,h⟩:=h;exact⟨b,a,(PL h hf).2⟩
 |DZ X=>obtain⟨d,a,h⟩:=h;exact⟨d,a,aec h hf⟩
theorem ajd {A}:∀(z j:Z AC){r:Z AC}{l B:oz}{f:gw},tj z j=I r->cv c l z []->cv c B j f->cv (gZ A c.hw c.w) l r f:=by
 intro z;induction z with
 |nil=>intro j r l B f h H C;cases j with|cons _ _=>simp[tj]at h|nil=>simp[tj]at h;subst h;cases l with|cons _ _=>exact H.elim|nil=>cases B with|cons _ _=>exact C.elim|nil=>exact C
 |cons o z R=>
  intro j r l B f h H C;cases l with
  |nil=>exact H.elim
  |cons v l=>
   cases j with
   |nil=>unfold tj at h;split at h<;>first|contradiction|cases h
   |cons s j=>
    cases B with
    |nil=>exact C.elim
    |cons u B=>
     obtain⟨V,X,Q,E,F⟩:=H;have T:V=[]:=by have:=Q.symm;simp at this;exact this.1
     have U:X=[]:=by have:=Q.symm;simp at this;exact this.2
     subst T;subst U;obtain⟨f1,f2,rfl,m,D⟩:=C;have K:∀{x:AC}{q},x.mj=O->s.mj=O->o=x->tj z j=I q->r=x::q->cv (gZ A c.hw c.w) (v::l) r (f1++f2):=by rintro x q hx Y rfl i rfl;obtain⟨rfl,_⟩:=wh (c':=c) m Y;exact⟨[],f2,rfl,(wh E hx).2,R j i F D⟩
     unfold tj at h;split at h;contradiction;rename_i ep rt t e0 xs0 p J e xs y a d;injection a with a b;subst a;subst b;injection d with d g;subst d;subst g;cases L:(J==t)with
     |false=>rw[L]at h;cases h
     |true=>
      have:J=t:=by simpa using L
      subst this;rw[L]at h;simp only[ae]at h;obtain⟨q,i,h⟩:=br.1 h;cases h;have P:=(E.2.2.2.2 rt J rfl).2;have M:=(m.2 J rfl).2;have N:u=v:=M.trans P.symm;subst N;exact⟨f1,f2,rfl,⟨m.1,aD⟩,R _ i F D⟩
     rename_i k n p S n' y a d;injection a with a b;subst b;injection d with d g;subst d;subst g;obtain⟨q,i,h⟩:=br.1 h;cases h;exact K (x:=.int k n) rfl rfl a i rfl;rename_i k p S y a d;injection a with a b;subst b;injection d with d g;subst d;subst g;obtain⟨q,i,h⟩:=br.1 h;cases h;exact K (x:=.bool k) rfl rfl a i rfl;rename_i k p S y a d;injection a with a b;subst b;injection d with d g;subst d;subst g;obtain⟨q,i,h⟩:=br.1 h;cases h;exact K (x:=.str k) rfl rfl a i rfl;cases h
theorem ahb {v}(h:kh c v x fp):kh (gZ (λ_ b o=>c.S b o/\b<c.w.heap.size) (λ_=>0) c.w) v (x.asArg c.ep) []:=by
 have d:∀{e:CT}{j:Z e.D},mq c.w c.S (.sl e) [v] j->mq c.w (λb o=>c.S b o/\b<c.w.heap.size) (.sl e) [v] j:=λq=>
  mq.mono (λb o u hs a=>⟨⟨hs,World.block_lt_of_cell? c.w _ a⟩,a⟩) q
 cases x with|int k n=>exact⟨h.1,rfl⟩|bool b=>exact⟨h.1,rfl⟩|str s=>exact⟨h.1,rfl⟩|mP=>exact⟨h.1,rfl⟩|fn f=>exact⟨h.1,rfl⟩|ptr s g=>exact rfl|un=>exact rfl|bot=>exact rfl|I7 l e y i g=>exact rfl|sl l e j=>cases l with|nest _ _ _ _ _ _=>exact rfl|part _ _ _ _=>exact rfl|im _ _ _=>exact rfl|own t=>exact⟨rfl,d (gX.rep (λb o p=> .inr p) h.1)⟩|arg k=>exact⟨rfl,d (mq.mono (λb o u hs a=>⟨.inl ⟨k,hs⟩,a⟩) h.2)⟩|loc r z=>simp only[AC.asArg];split;rename_i m;exact⟨rfl,d (h.2.2.2.1 (by simpa using m))⟩;exact rfl
theorem TO:∀{a:oz}{d:Z AC}{fp:gw},cv c a d fp->cv (gZ (λ_ b o=>c.S b o/\b<c.w.heap.size) (λ_=>0) c.w) a (d.map (AC.asArg c.ep)) []
 |[],[],_,_=>rfl
 |_::_,_::_,_,h=>by obtain⟨f1,f2,rfl,e,f⟩:=h;exact⟨[],[],rfl,ahb e,TO f⟩
 |[],_::_,_,h=>h.elim
 |_::_,[],_,h=>h.elim
theorem alx {v x}(h:iY c v x fp):iY (gZ (λ_ b o=>c.S b o/\b<c.w.heap.size) (λ_=>0) c.w) v (x.asArg c.ep) []:=by
 cases x with
 |val g cs=>obtain⟨d,a,h⟩:=h;exact⟨d,a,TO h⟩
 |DZ X=>exact iY.bot _ _
theorem adH (h:fL C g st a w []):∀(args:Z Operand),
 uh (λ_ b o=>(dQ C g st w).S b o/\b<w.heap.size) w (args.map a.eval) (args.map λx=>((st.rd x).fresh st).asArg st.ep)
 |[]=>trivial
 |x::d=>⟨alx (c:=dQ C g st w) (h.fresh (h.rd x)),adH h d⟩
theorem ahc {A' v d}(h:kh (gZ A' hw c.w) v x fp)(B:∀k b o,A' k b o->c.S b o)(a:∀b∈fp,c.hw b=hw b)(E:∀t,d=I t->c.iss t/\v=c.hdr t):kh c v (x.L9 c.ep d) fp:=by
 cases x with
 |int k n=>exact h
 |bool b=>exact h
 |str s=>exact h
 |mP=>exact h
 |fn f=>exact h
 |ptr s m=>exact h.2.2
 |un=>exact h
 |bot=>exact h
 |I7 j e y i m=>cases j with|own t=>exact h.elim|nest _ _ _ _ _ _=>exact h.elim|part _ _ _ _=>exact h.elim|im _ _ _=>exact h.elim|arg _=>exact h.1|loc z F=>exact h.1
 |sl j e H=>
  cases j with
  |nest _ _ _ _ _ _=>exact h.1
  |part _ _ _ _=>exact h.1
  |im _ _ _=>obtain⟨_,⟨k,C,A⟩,_⟩:=h;exact⟨λq D=>(by cases D),⟨k,C,A.mono (λb l=>⟨rfl,a b l⟩)⟩,aD⟩
  |own t=>exact⟨gX.mono h.1 (λb l=>⟨rfl,a b l⟩),E⟩
  |loc z F=>exact h.1
  |arg _=>have p:mq c.w c.S (.sl e) [v] H:=mq.mono (λb o u hs g=>⟨B _ b o hs,g⟩) h.2;refine⟨h.1,bq _,?_,λ_=>p,aD⟩;obtain⟨u,g,k⟩:=p;simp at g;subst g;rcases k with⟨⟨J,rfl⟩,rfl⟩|⟨b,o,r,rfl,_⟩;exact⟨_,_,_,rfl,rfl⟩;exact⟨_,_,_,rfl,rfl⟩
theorem I2 {A':Rg}{mk:Nat->aS Nat}(e:∀k b o,A' k b o->c.S b o):∀{d:oz}{m:Z AC}{fp:gw}(j:Nat),cv (gZ A' hw c.w) d m fp->(∀b∈fp,c.hw b=hw b)->
 (∀i v,d[i]?=I v->∀t,mk (j+i)=I t->c.iss t/\v=c.hdr t)->cv c d (Rz c.ep mk j m) fp
 |[],[],_,_,h,_,_=>h
 |v::_,_::_,_,j,h,f,g=>by obtain⟨f1,f2,rfl,n,p⟩:=h;exact⟨f1,f2,rfl,ahc n e (λb a=>f b (bh _ a)) (λt l=>g 0 v rfl t l),I2 e (j+1) p (λb a=>f b (bC _ a)) (λi u q t l=>g (i+1) u (by simpa using q) t (by rwa[(J:j+(i+1)=j+1+i)]))⟩
 |[],_::_,_,_,h,_,_=>h.elim
 |_::_,[],_,_,h,_,_=>h.elim
inductive Leaves (A:Rg) (hw:Nat->Nat) (w:World):List Value->List (Bool×List AC)->List Nat->List Value->Prop
 |nil:Leaves A hw w [] [] [] []
 |cons {v:Value} {vs:List Value} {g:Bool} {cs:List AC} {X:List (Bool×List AC)} {f1 f2:List Nat} {us all:List Value} (WO:Cut g v us) (hr:cv (gZ A hw w) us cs f1) (h:Leaves A hw w vs X f2 all):
  Leaves A hw w (v::vs) ((g,cs)::X) (f1++f2) (us++all)
theorem S3 {A:Rg}{w:World}:∀{b:oz}{X:Z (Bool×Z AC)}{fp:gw},iY.xy (gZ A hw w) b X fp->∃all,Leaves A hw w b X fp all
 |[],[],_,h=>by cases h;exact⟨[],.nil⟩
 |_::_,(g,cs)::_,_,h=>by obtain⟨f1,f2,rfl,⟨f,d,e⟩,c⟩:=h;obtain⟨all,a⟩:=S3 c;exact⟨f++all,.cons d e a⟩
 |[],_::_,_,h=>h.elim
 |_::_,[],_,h=>h.elim
theorem Xi {A' mk}(r:∀k b o,A' k b o->c.S b o){q X all}(h:Leaves A' hw c.w q X fp all): ∀j,(∀b∈fp,c.hw b=hw b)->(∀i v,all[i]?=I v->∀t,mk (j+i)=I t->c.iss t/\v=c.hdr t)->iY.xy c q (ai7 c.ep mk j X) fp:=by induction h with|nil=>intro j _ _;exact rfl| @cons v z g cs X f1 f2 l all s p h y=>intro j m n;have x:=p.length;refine⟨f1,f2,rfl,⟨l,s,I2 r j p (λb d=>m b (bh _ d)) (λi u a t f=>?_)⟩,y _ (λb d=>m b (bC _ d)) (λi u a t f=>?_)⟩;exact n i u (by rw[bE (aA.1 a).1];exact a) t f;have e:l.length=cs.length:=x;refine n (l.length+i) u (by rw[bN J];simpa using a) t ?_;rw[<-ig,e];exact f
def xE (hdr:Nat->Value)(mk:Nat->aS Nat)(all:oz):=λu=>if mk (u/3%4096)=I u then(all[u/3%4096]?).getD undef else hdr u
theorem H7 {all t}(h:rE st t):xE hdr (st.kL d) all t=hdr t:=by unfold xE;rw[aK];intro e;exact(wq e).1 h
theorem H6 {all i t v}(c:all[i]?=I v)(h:st.kL d i=I t):v=xE hdr (st.kL d) all t:=by
 obtain⟨_,_,e,rfl,b,f⟩:=wq h;have a:t/3%4096=i:=by rw[b,R6];omega
 unfold xE;rw[a,aI h,c];rfl
theorem ajC {b c seg f1 f2 f3 a n}(d:c=(b.drop a).take n)(h:c.length=n)(i:cv c' (b.take a) (cs.take a) f1)(f:cv c' c seg f2)(j:cv c' (b.drop (a+n)) (cs.drop (a+n)) f3): cv c' b (fV cs a seg) (f1++f2++f3):=by
 have g:=f.length;have e:b=b.take a++c++b.drop (a+n):=by rw[d,aH,<-fM,cH,cH]
 rw[e,fV,(J:seg.length=n)];exact cv.append (cv.append i f) j
theorem Zk:∀(f c:Z AC){r:Z AC},tj f c=I r->c.length=f.length:=by
 intro f
 induction f with
 |nil=>intro c r h;cases c with
  |nil=>rfl
  |cons _ _=>simp[tj]at h
 |cons o f i=>
  intro c r h
  cases c with
  |nil=>unfold tj at h;split at h<;>first|contradiction|cases h
  |cons s c=>
   unfold tj at h
   split at h
   ·contradiction
   ·rename_i d e
    injection d with d a;subst a
    injection e with e b;subst b
    rw[Bool.cond_eq_ite]at h
    split at h
    ·obtain⟨j,g,h⟩:=br.1 h
     simp[i _ g]
    ·cases h
   all_goals first
    |cases h
    |(rename_i d e
      injection d with d a;subst a
      injection e with e b;subst b
      obtain⟨j,g,h⟩:=br.1 h
      simp[i _ g])
theorem Pt {A':Rg}{mk:Nat->aS Nat}{k:Bool}(m:A' O=c.A k):∀{vs:oz}{xs:Z AC}{fp:gw}(j:Nat),cv (gZ A' hw c.w) vs xs fp->xs.all (AC.Gx O)=O->
 (∀b∈fp,c.hw b=hw b)->(∀i v,vs[i]?=I v->∀t,mk (j+i)=I t->c.iss t/\v=c.hdr t)->cv c vs (we k mk j xs) fp
 |[],[],_,_,h,_,_,_=>h
 |v::_,x::_,_,j,h,a,n,o=>by
  obtain⟨f1,f2,rfl,d,q⟩:=h;simp only[cC,af]at a;refine⟨f1,f2,rfl,?_,Pt m (j+1) q a.2 (λb f=>n b (bC _ f)) (λi u s t g=>o (i+1) u (by simpa using s) t (by rwa[(J:j+(i+1)=j+1+i)]))⟩;have l:∀b∈f1,c.hw b=hw b:=λb f=>n b (bh _ f);have g:∀t,mk j=I t->c.iss t/\v=c.hdr t:=λt g=>o 0 v rfl t g;have a:=a.1;cases x with
  |sl p e xs=>
   cases p with
   |own t=>exact⟨gX.mono d.1 (λb f=>⟨rfl,l b f⟩),g⟩
   |arg y=>
    have r:y=true:=by simpa[AC.Gx]using a
    subst r;exact⟨d.1,by rw[<-m];exact d.2⟩
   |loc _ _=>cases a
   |nest _ _ _ _ _ _=>cases a
   |part _ _ _ _=>cases a
   |im _ _ _=>cases a
  |int _ _=>exact d
  |bool _=>exact d
  |str _=>exact d
  |fn _=>exact d
  |mP=>cases a
  |ptr _ _=>cases a
  |I7 _ _ _ _ _=>cases a
  |un=>cases a
  |bot=>cases a
 |[],_::_,_,_,h,_,_,_=>h.elim
 |_::_,[],_,_,h,_,_,_=>h.elim
theorem R8 {A':Rg}{w:World}{k:Bool}:∀{cs:Z AC},cs.all (AC.Gx k)=O->∀{c:RC}{f:oz}{fp:gw},cv c f cs fp->c.w=w->c.hw=hw->A' O=c.A k->cv (gZ A' hw w) f (cs.map AC.adm) fp
 |[],_,c,f,fp,h,_,_,_=>by cases f with|nil=>exact h|cons _ _=>exact h.elim
 |x::cs,a,c,f,fp,h,d,g,i=>by
  cases f with
  |nil=>exact h.elim
  |cons v f=>
   obtain⟨f1,f2,rfl,b,l⟩:=h;simp only[cC,af]at a;refine⟨f1,f2,rfl,?_,R8 a.2 l d g i⟩;have a:=a.1;cases x with
   |sl j e o=>
    cases j with
    |own t=>exact⟨by have:=b.1;rw[d,g]at this;exact this,aD⟩
    |arg n=>
     have m:n=k:=by simpa[AC.Gx]using a
     subst m;exact⟨b.1,by have:=b.2;rw[d,<-i]at this;exact this⟩
    |loc _ _=>cases a
    |nest _ _ _ _ _ _=>cases a
    |part _ _ _ _=>cases a
    |im _ _ _=>cases a
   |int _ _=>exact b
   |bool _=>exact b
   |str _=>exact b
   |fn _=>exact b
   |mP=>cases a
   |ptr _ _=>cases a
   |I7 _ _ _ _ _=>cases a
   |un=>cases a
   |bot=>cases a
theorem aaz (h:fL C g st a w [])(s:Nat){A':Rg}(K:∀b o,(dQ C g st w).S b o/\b<w.heap.size/\g.gb b≠I (.box s)->A' G b o):∀(n:Z Operand),n.all (Kt st)=O->
 uh A' w (n.map a.eval) (n.map (Jk st))
 |[],_=>trivial
 |x::n,i=>by
  simp only[cC,af]at i;refine⟨?_,aaz h s K n i.2⟩;have i:=i.1;cases x with
  |const _=>exact WB (h.rd _) i
  |func _=>exact WB (h.rd _) i
  |global _=>exact WB (h.rd _) i
  |tmp t=>
   have F:∀(t0:Nat){e:CT}{v:Value}{n:Z e.D}{fp:gw},gX g.hw w (.sl e) [v] n fp->(∀b∈fp,g.gb b=I (.slot t0))->mq w (A' G) (.sl e) [v] n:=by
    intro t0 e v n fp p A;have h3:gX (λb=>if b∈fp then g.hw b else 0) w (.sl e) [v] n fp:=gX.mono p (λb l=>⟨rfl,by simp[l]⟩)
    exact gX.rep (λb o J=>by
     by_cases l:b∈fp;have J:o<g.hw b:=by simpa[l]using J
     have E:=A b l;exact K b o ⟨.inr J,(h.ju b _ E).1,by rw[E];simp⟩;simp[l]at J) h3
   obtain⟨fp,z,hn,A⟩:=h.slot t;simp only[Kt]at i;show iY _ (a.tmps.getD t undef) (Jk st (.tmp t)) _;simp only[Jk];cases Y:st.get t with
   |DZ _=>rw[Y]at i;cases i
   |val gg cs=>
    rw[Y]at i z;simp only at i;obtain⟨m,WO,z⟩:=z
    have T:∀(cs:Z AC)(m:oz)(fp:gw),(cs.map st.Y8).all AC.Su=O->(∀b∈fp,g.gb b=I (.slot t))->cv (dQ C g st w) m cs fp->
     cv (gZ A' (λ_=>0) w) m (cs.map st.Y8) []:=by
     intro cs
     induction cs with
     |nil=>intro m fp _ _ h;cases m with
      |nil=>rfl
      |cons _ _=>exact h.elim
     |cons c cs ih=>
      intro m fp d A z
      cases m with
      |nil=>exact z.elim
      |cons v m=>
       obtain⟨f1,f2,rfl,p,h2⟩:=z
       simp only[gC,cC,af]at d
       refine⟨[],[],rfl,?_,ih m f2 d.2 (λb l=>A b (bC _ l)) h2⟩
       have d:=d.1
       cases c with
       |sl fl e n=>
        cases fl with
        |own tag=>exact⟨rfl,F t p.1 (λb l=>A b (bh _ l))⟩
        |arg k=>exact⟨rfl,mq.mono (λb o u V X=>⟨K b o ⟨.inl ⟨k,V⟩,World.block_lt_of_cell? w _ X,λl=>h.Xh l k o V⟩,X⟩) p.2⟩
        |loc ep pv=>
         cases pv with
         |none=>cases d
         |some q=>
          obtain⟨r,tg⟩:=q
          cases r with
          |box _ _=>cases d
          |io _=>cases d
          |slot b j=>
           have Q:=(p.2.2.2.2 (.slot b j) tg rfl).2
           simp only[AS.Y8]at d⊢
           cases f:st.gN (.slot b j)with
           |none=>rw[f]at d;cases d
           |some c0=>
            rw[f]at d
            split at d
            ·rename_i t' e' ys M
             split at d
             ·rename_i ht
              subst ht
              cases M
              rw[aI rfl]
              obtain⟨fp2,y,_,N⟩:=h.slot b
              simp only[AS.gN]at f
              cases B:st.get b with
              |DZ _=>rw[B]at f;cases f
              |val g2 cs2=>
               rw[B]at f y
               simp only at f
               obtain⟨vs2,_,y⟩:=y
               rw[fJ]at f
               obtain⟨v2,f3,_,H,P⟩:=y.get j _ f
               have R:v=v2:=by have:=(H.2 t' rfl).2;rw[Q,this]
               rw[R]
               exact⟨rfl,F b H.1 (λU L=>N U (P U L))⟩
             ·cases d
            ·cases d
        |nest _ _ _ _ _ _=>cases d
        |part _ _ _ _=>cases d
        |im _ _ _=>cases d
       |int _ _=>exact⟨p.1,rfl⟩
       |bool _=>exact⟨p.1,rfl⟩
       |str _=>exact⟨p.1,rfl⟩
       |fn _=>exact⟨p.1,rfl⟩
       |mP=>cases d
       |ptr _ _=>cases d
       |I7 _ _ _ _ _=>cases d
       |un=>cases d
       |bot=>cases d
    exact⟨m,WO,T cs m fp i A z⟩
theorem fL.arx (h:fL C g st a w [])s(Y:st.boxes[s]?=I (I cs)): ∃D T fr fp,w.heap[g.β s]?=I (.cells D T fr)/\wE D fr/\cv (dQ C g st w) D.toList cs fp/\fp.Nodup/\g.β s∉fp/\(∀b∈fp,b<w.heap.size)/\g.hw (g.β s)=0/\(∀b,b=g.β s\/b∈fp->g.gb b=I (.box s))/\ ∀(K:World)(H:Nat->Nat)(p:Array Value)(T':TypeId)(L:Nat×Nat)(z:Z AC)(e v:gw)(A':Rg)(k:Bool),Fr (λb=>b=g.β s\/b∈fp) w K->K.heap[g.β s]?=I (.cells p T' L)->wE p L-> A' O=C.A k->cv (gZ A' H K) p.toList z e->z.all (AC.Gx O)=O->e.Nodup->g.β s∉e->(∀b∈e,b<K.heap.size/\(b∈fp\/w.heap.size<=b))-> (∀b∈v,b<K.heap.size/\(b∈fp\/w.heap.size<=b)/\b∉e/\b≠g.β s)-> ∃Q,fL C Q (aj3 st s (we k (st.kL (I s)) 0 z)) a K []/\(∀b∈v,Q.gb b=I (.hand 0)/\Q.hw b=H b)/\∀b,b<w.heap.size->g.gb b≠I (.box s)->Q.hw b=g.hw b:=by
 obtain⟨D,T,fr,fp,acj,MY,hr,hn,hnb,hl,hl0,hw0⟩:=h.boxes s cs Y;have aD3:s<st.boxes.length:=(aA.1 Y).1;have r:∀b,b=g.β s\/b∈fp->g.gb b=I (.box s):=by rintro b (rfl|f);exact hl0;exact hl b f
 refine⟨D,T,fr,fp,acj,MY,hr,hn,hnb,λb f=>(h.ju b _ (hl b f)).1,hw0,r,?_⟩;intro K H p T' L z e v A' k P aB4 aeF hA' aDK aty YJ aut R E;let m:Z AC:=we k (st.kL (I s)) 0 z;let n:AS:=aj3 st s m;let hw2:Nat->Nat:=λb=>if b∈e\/b∈v then H b else if b=g.β s then 0 else g.hw b
 let aEw:Nat->aS oN:=λb=>if b=g.β s\/b∈e then I (.box s) else if b∈v then I (.hand 0) else g.gb b
 let Q:Gh:=⟨hw2,g.β,aEw,xE g.hdr (st.kL (I s)) p.toList⟩
 have N:n.boxes=st.boxes.set s (I m):=by show((st.gD s (I m)).iC (I s)).boxes=_;rw[I4,nT]
 have S:n.slots=st.slots:=by show((st.gD s (I m)).iC (I s)).slots=_;rw[Cj];rfl
 have hio:n.io=st.io:=by show((st.gD s (I m)).iC (I s)).io=_;rw[Q9];rfl
 have al6:∀t,rE st t->rE n t:=λt V=>by have j:rE (st.gD s (I m)) t:=V;exact Lo (d:=some s) j
 have hpr:∀t,mn st t->mn n t:=by rintro t ⟨c0,hc0⟩;by_cases B:s=t;subst B;exact⟨m,by rw[N];simp[aD3]⟩;exact⟨c0,by rw[N,aJ B];exact hc0⟩
 have aBe:∀b,b<w.heap.size->g.gb b≠I (.box s)->b∉e/\b∉v/\b≠g.β s:=by intro b f F;refine⟨λl=>?_,λl=>?_,λl=>F (r b (.inl l))⟩;rcases(R b l).2 with y|y;exact F (r b (.inr y));omega;rcases(E b l).2.1 with y|y;exact F (r b (.inr y));omega
 have aCX:∀b x,x≠ .box s->g.gb b=I x->aEw b=I x/\K.heap[b]?=w.heap[b]?/\hw2 b=g.hw b:=by intro b x hx f;have X:=(h.ju b x f).1;have hnm:¬(b=g.β s\/b∈fp):=λl=>hx (by have:=r b l;rw[f]at this;simpa using this);obtain⟨n1,n2,n3⟩:=aBe b X (by rw[f];simpa using hx);refine⟨?_,P.block b X hnm,?_⟩;show(if b=g.β s\/b∈e then _ else if b∈v then _ else _)=_;rw[aK (by rintro(j|j);exact n3 j;exact n1 j),aK n2];exact f;show(if b∈e\/b∈v then _ else if b=g.β s then _ else _)=_;rw[aK (by rintro(j|j);exact n1 j;exact n2 j),aK n3]
 have hcA:∀k b o u,C.A k b o->w.cell? ⟨b,o,W⟩=I u->K.cell? ⟨b,o,W⟩=I u:=by intro k b o u hA hu;have f:b<w.heap.size:=World.block_lt_of_cell? w _ hu;rw[World.cell?_of_block (a:=⟨b,o,W⟩) (P.block b f (λl=>h.Xh (r b l) k o hA))];exact hu
 have hle:(dQ C g st w).Le (dQ C Q n K):=⟨rfl,λt V=>⟨al6 t V,H7 V⟩,hcA,Nat.le_succ _,λt V=>⟨hpr t V,rfl⟩,λhe=>absurd he (Nat.succ_ne_self _)⟩
 refine⟨Q,h.step (λx=>x≠ .box s) hle h.defers ?_ ?_ ?_ ?_ (λb x hk f=>aCX b x hk f) ?_ ?_ (λk u bv hk=>by simp at hk) (.inl ⟨aD,hio⟩),λb f=>?_,λb f F=>?_⟩;rw[S];exact h.size;rw[S,N,aC];exact h.bsize;refine h.frame.trans P (λb f l=>?_);rcases(h.ju b _ (r b l)).2 with y|y;omega;exact y;intro b x hx;have U:(if b=g.β s\/b∈e then I (oN.box s) else if b∈v then I (.hand 0) else g.gb b)=I x:=hx;have hz:=P.size;have hold:b∈fp\/w.heap.size<=b->C.w0.heap.size<=b\/C.M b:=by rintro(y|y);exact(h.ju b _ (hl b y)).2;exact .inl (bf h.frame.size y)
 split at U;rename_i l;rcases l with rfl|l;have:=h.ju _ _ hl0;exact⟨J,this.2⟩;exact⟨(R b l).1,hold (R b l).2⟩;split at U;rename_i l;exact⟨(E b l).1,hold (E b l).2.1⟩;have:=h.ju b x U;exact⟨J,this.2⟩;intro i av hi;rw[S]at hi;exact .inl ⟨aD,hi,rfl⟩;intro t cs2 f;rw[N]at f;by_cases B:t=s;subst B;rw[bX]at f;simp only[dm,aD3]at f;simp at f;subst f;refine .inr ⟨p,T',L,e,aB4,aeF,?_,YJ,aut,λb f=>?_,?_,?_⟩
 have:=Pt (c:=dQ C Q n K) (A':=A') (hw:=H) (mk:=st.kL (I t)) (k:=k) hA' 0 (vs:=p.toList) (xs:=z) (fp:=e) aDK aty
  (λb f=>by show(if b∈e\/b∈v then _ else _)=_;rw[aI (.inl f)])
  (λi u hu q hq=>by
   rw[cR]at hq;have l:=wq hq;have hm2:rE n q:=by have j:st.kL (I t) i=I q:=hq;have y:(st.gD t (I m)).kL (I t) i=I q:=j;exact(wq y).2.1
   exact⟨hm2,H6 hu hq⟩)
 exact this;show(if b=g.β t\/b∈e then _ else _)=_;rw[aI (.inr f)];show(if g.β t=g.β t\/g.β t∈e then _ else _)=_;rw[aI (.inl rfl)];show(if g.β t∈e\/g.β t∈v then _ else if g.β t=g.β t then _ else _)=_;rw[aK (by rintro(j|j);exact aut j;exact(E _ j).2.2.2 rfl),aI rfl];rw[aJ (cI B)]at f;exact .inl ⟨by simpa using B,f,rfl⟩;obtain⟨_,_,h3,h4⟩:=E b f;refine⟨?_,?_⟩;show(if b=g.β s\/b∈e then _ else if b∈v then _ else _)=_;rw[aK (by rintro(j|j);exact h4 j;exact h3 j),aI f];show(if b∈e\/b∈v then _ else _)=_;rw[aI (.inr f)];obtain⟨n1,n2,n3⟩:=aBe b f F;show(if b∈e\/b∈v then _ else if b=g.β s then _ else _)=_;rw[aK (by rintro(j|j);exact n1 j;exact n2 j),aK n3]
theorem abM:∀{g:oz}{cs:Z AC}{fp:gw},cv c g cs fp->cs.all AC.Qq=O->fp=[]
 |[],[],_,h,_=>h
 |[],_::_,_,h,_=>h.elim
 |_::_,[],_,h,_=>h.elim
 |v::g,x::cs,fp,h,a=>by
  obtain⟨f1,f2,rfl,d,j⟩:=h;simp only[cC,af]at a;rw[abM j a.2,bm];have a:=a.1;cases x with
  |sl i e l=>cases i<;>first|exact d.1|cases a
  |int k n=>exact d.2
  |bool b=>exact d.2
  |str s=>exact d.2
  |fn f=>exact d.2
  |mP=>cases a
  |ptr _ _=>cases a
  |I7 _ _ _ _ _=>cases a
  |un=>cases a
  |bot=>cases a
theorem fL.aoP (h:fL C g st a w [])s(V:st.boxes[s]?=I (I cs))(hcs:cs.all AC.Qq=O): ∀(y:World)(E:Nat->Nat)(n:Array Value)(T':TypeId)(H:Nat×Nat)(p:Z AC)(d r:gw)(A':Rg)(k:Bool),Fr (λb=>b=g.β s) w y->y.heap[g.β s]?=I (.cells n T' H)->wE n H-> A' O=C.A k->cv (gZ A' E y) n.toList p d->p.all (AC.Gx O)=O->d.Nodup->g.β s∉d->(∀b∈d,b<y.heap.size/\w.heap.size<=b)-> (∀b∈r,b<y.heap.size/\w.heap.size<=b/\b∉d/\b≠g.β s)-> ∃P,fL C P (st.gD s (I (we k (λ_=>W) 0 p))) a y []/\(∀b∈r,P.gb b=I (.hand 0)/\P.hw b=E b)/\∀b,b<w.heap.size->g.gb b≠I (.box s)->P.hw b=g.hw b:=by
 obtain⟨arr,T,fr,fp,acj,MY,hr,hn,hnb,hl,D,hw0⟩:=h.boxes s cs V;have aA2:fp=[]:=abM hr hcs;subst aA2;have aD3:s<st.boxes.length:=(aA.1 V).1;intro y E n T' H p d r A' k z aB4 aeF hA' aDK aty YJ X Q B;let F:Z AC:=we k (λ_=>W) 0 p;let N:AS:=st.gD s (I F);let M:Nat->Nat:=λb=>if b∈d\/b∈r then E b else if b=g.β s then 0 else g.hw b
 let aEw:Nat->aS oN:=λb=>if b=g.β s\/b∈d then I (.box s) else if b∈r then I (.hand 0) else g.gb b
 let P:Gh:=⟨M,g.β,aEw,g.hdr⟩
 have K:N.boxes=st.boxes.set s (I F):=by show(st.gD s (I F)).boxes=_;rw[nT]
 have hpr:∀t,mn st t->mn N t:=by rintro t ⟨c0,hc0⟩;by_cases v:s=t;subst v;exact⟨F,by rw[K];simp[aD3]⟩;exact⟨c0,by rw[K,aJ v];exact hc0⟩
 have hold:∀b,b<w.heap.size->b∉d/\b∉r:=by intro b f;refine⟨λj=>?_,λj=>?_⟩;have:=(Q b j).2;omega;have:=(B b j).2.1;omega
 have R:∀b,b<w.heap.size->b≠g.β s->M b=g.hw b:=by intro b f l;show(if b∈d\/b∈r then _ else if b=g.β s then _ else _)=_;rw[aK (by rintro(m|m);exact(hold b f).1 m;exact(hold b f).2 m),aK l]
 have aCX:∀b x,x≠ .box s->g.gb b=I x->aEw b=I x/\y.heap[b]?=w.heap[b]?/\M b=g.hw b:=by intro b x hx f;have L:=(h.ju b x f).1;have l:b≠g.β s:=λj=>hx (by rw[j,D]at f;simpa using f.symm);refine⟨?_,z.block b L l,R b L l⟩;show(if b=g.β s\/b∈d then _ else if b∈r then _ else _)=_;rw[aK (by rintro(m|m);exact l m;exact(hold b L).1 m),aK (hold b L).2];exact f
 have hcA:∀k b o u,C.A k b o->w.cell? ⟨b,o,W⟩=I u->y.cell? ⟨b,o,W⟩=I u:=by intro k b o u hA U;have f:b<w.heap.size:=World.block_lt_of_cell? w _ U;rw[World.cell?_of_block (a:=⟨b,o,W⟩) (z.block b f (λj=>h.Xh (by rw[j];exact D) k o hA))];exact U
 have hle:(dQ C g st w).Le (dQ C P N y):=by
  refine⟨rfl,λt ht=>⟨ht,rfl⟩,hcA,bq _,λt ht=>⟨hpr t ht,rfl⟩,λ_ b o u ho U=>?_⟩;have f:b<w.heap.size:=World.block_lt_of_cell? w _ U;have Y:o<g.hw b:=ho;have l:b≠g.β s:=λe=>by rw[e,hw0]at Y;omega
  refine⟨by show o<M b;rw[R b f l];exact Y,?_⟩;show y.cell? ⟨b,o,W⟩=I u;rw[World.cell?_of_block (a:=⟨b,o,W⟩) (z.block b f l)];exact U
 refine⟨P,h.step (λx=>x≠ .box s) hle h.defers h.size ?_ ?_ ?_ (λb x hk f=>aCX b x hk f) ?_ ?_ (λk u bv hk=>by simp at hk) (.inl ⟨aD,rfl⟩),λb f=>?_,λb f hlb=>?_⟩;rw[K,aC];exact h.bsize;refine h.frame.trans z (λb f j=>?_);have j:b=g.β s:=j;subst j;rcases(h.ju _ _ D).2 with h2|h2;omega;exact h2;intro b x hx;have S:(if b=g.β s\/b∈d then I (oN.box s) else if b∈r then I (.hand 0) else g.gb b)=I x:=hx;have hz:=z.size;split at S;rename_i j;rcases j with rfl|j;have:=h.ju _ _ D;exact⟨J,this.2⟩;exact⟨(Q b j).1,.inl (bf h.frame.size (Q b j).2)⟩;split at S;rename_i j;exact⟨(B b j).1,.inl (bf h.frame.size (B b j).2.1)⟩;have:=h.ju b x S;exact⟨J,this.2⟩;intro i av hi;exact .inl ⟨aD,hi,rfl⟩;intro t cs2 f;rw[K]at f;by_cases v:t=s;subst v;rw[bX]at f;simp only[dm,aD3]at f;simp at f;subst f;refine .inr ⟨n,T',H,d,aB4,aeF,?_,YJ,X,λb f=>?_,?_,?_⟩;have:=Pt (c:=dQ C P N y) (A':=A') (hw:=E) (mk:=λ_=>W) (k:=k) hA' 0 (vs:=n.toList) (xs:=p) (fp:=d) aDK aty (λb f=>by show(if b∈d\/b∈r then _ else _)=_;rw[aI (.inl f)]) (λi u U q hq=>by cases hq);exact this;show(if b=g.β t\/b∈d then _ else _)=_;rw[aI (.inr f)];show(if g.β t=g.β t\/g.β t∈d then _ else _)=_;rw[aI (.inl rfl)];show(if g.β t∈d\/g.β t∈r then _ else if g.β t=g.β t then _ else _)=_;rw[aK (by rintro(m|m);exact X m;exact(B _ m).2.2.2 rfl),aI rfl];rw[aJ (cI v)]at f;exact .inl ⟨by simpa using v,f,rfl⟩;obtain⟨_,_,h3,h4⟩:=B b f;refine⟨?_,?_⟩;show(if b=g.β s\/b∈d then _ else if b∈r then _ else _)=_;rw[aK (by rintro(m|m);exact h4 m;exact h3 m),aI f];show(if b∈d\/b∈r then _ else _)=_;rw[aI (.inr f)];exact R b f (λe=>hlb (by rw[e];exact D))
theorem ato (hΓ:∀f,rC P f (Y f)){d}(ho:d.op=.call {callee:=.value f,args,argTypes:=X})(hg:fL C g st a w []){k}(hf:st.rd f=.val G [.fn k])(hbx:(Y k).bx=O){K}(j:Ct Y d k args.toList st K=I r)next Q(auv:∀st' a' p,ub C st' a' p->K st'=I r->next a' p):d.wp P a w next Q:=by
 have M:=hg.rd f;rw[hf]at M;have M:=(gk M).1;unfold Ct at j;split at j
 ·rename_i x0 xs aum;split at j
  ·rename_i s hx0;split at j
   ·rename_i cs x;have l:st.boxes[s]?=I (I cs):=by rw[fJ]at x;cases D:st.boxes[s]? with|none=>rw[D]at x;simp at x|some q=>rw[D]at x;simp at x;rw[x]
    cases hc:(cs.all (AC.Gx (L8 cs))&&xs.all (Kt st))with
    |false=>rw[hc]at j;cases j
    |true=>
     rw[hc]at j;simp only[ae]at j;simp only[af]at hc;cases aDO:(Y k).fn (.val O (cs.map AC.adm)::xs.map (Jk st))with
     |none=>rw[aDO]at j;cases j
     |some y=>
      rw[aDO]at j;simp only[U]at j;cases F:(((Y k).back y).all (AC.Gx O)&&((Y k).av y).am6)with
      |false=>rw[F]at j;cases j
      |true=>
       rw[F]at j;simp only[ae]at j;simp only[af]at F;obtain⟨⟨fn,c,hfn,aun,aus⟩,_,_,N,_⟩:=hΓ k _ y aDO;have N:=N hbx _ _ rfl;have hrd:=hg.rd x0;rw[hx0]at hrd;have hpv:=Jo hrd;obtain⟨arr,T,fr,fp,acj,MY,aeB,hn,hnb,YI,hw0,aBy,ahT⟩:=hg.arx s l;let A':Rg:=λq b o=>bif q then C.A (L8 cs) b o else((dQ C g st w).S b o/\b<w.heap.size/\g.gb b≠I (.box s))
       have hA':∀q L o,A' q L o->L<w.heap.size/\L≠g.β s/\L∉fp:=by
        intro q L o D;have key:L<w.heap.size/\g.gb L≠I (.box s):=by cases q with|true=>have D:C.A (L8 cs) L o:=D;exact⟨Nat.lt_of_lt_of_le (C.hA _ _ _ D).1 hg.frame.size,λl=>hg.Xh l _ o D⟩|false=>exact D.2
        exact⟨key.1,λe=>key.2 (aBy L (.inl e)),λe=>key.2 (aBy L (.inr e))⟩
       have aCb:=N A' w (g.β s) (xs.map a.eval) arr T fr g.hw fp hA' acj MY (R8 (k:=L8 cs) hc.1 aeB rfl rfl rfl) hn hnb YI hw0 (aaz hg s (λb o h=>h) xs hc.2);have aBi:a.eval x0=.pointer (I ⟨g.β s,0,W⟩):=hpv;have aBT:(Value.pointer (I ⟨g.β s,0,W⟩)::xs.map a.eval).toArray=args.map a.eval:=by apply gV;simp[aum,aBi]
       rw[aBT]at aCb;have MX:(execOp a.eval d).run P w=.ok (.enter k (args.map a.eval)) w:=by simp[execOp,ho,resolve,M,Deferred.ofValue,invoke,callFunc,hfn,aun];simpa using aus
       unfold Oper.wp;rw[MX,Oper.upon_enter];refine aCb.mono ?_;rintro e p ⟨v,hw',fv,aBF,T',fr',fp',rfl,hrv,aB4,aeF,E,YJ,aut,Z,hnv,H,z⟩;show next (a.put d.dst v) p
       have tail:∀(st1:AS)(g':Gh),fL C g' st1 a p []->(∀b∈fv,g'.gb b=I (.hand 0)/\g'.hw b=hw' b)->(∀b,b<w.heap.size->g.gb b≠I (.box s)->g'.hw b=g.hw b)->
        K ((st1.iC d.dst).put d.dst (((Y k).av y).L9 st1.ep (st1.kL d.dst)))=I r->next (a.put d.dst v) p:=by
        intro st1 g' J B hold j
        have hAS:∀(R:Nat->Value)(q:Bool)(b o:Nat),A' q b o->(dQ C {g' with hdr:=R} (st1.iC d.dst) p).S b o:=by intro R q b o D;cases q with|true=>exact .inl ⟨_,D⟩|false=>rcases D.1 with hs|hs;exact .inl hs;exact .inr (by show o<g'.hw b;rw[hold b D.2.1 D.2.2];exact hs)
        have aCI:∀b∈fv,g'.hw b=hw' b:=λb l=>(B b l).2
        have E:∃R,(∀t,rE st1 t->R t=g'.hdr t)/\iY (dQ C {g' with hdr:=R} (st1.iC d.dst) p) v (((Y k).av y).L9 st1.ep (st1.kL d.dst)) fv:=by
         generalize (Y k).av y=y at hrv;cases y with
         |val gg cs=>obtain⟨vs,WO,hr⟩:=hrv;refine⟨xE g'.hdr (st1.kL d.dst) vs,λt n=>H7 n,vs,WO,?_⟩;have:=I2 (c:=dQ C {g' with hdr:=xE g'.hdr (st1.kL d.dst) vs} (st1.iC d.dst) p) (mk:=st1.kL d.dst) (hAS _) 0 hr aCI (λi u hu t n=>by rw[cR]at n;exact⟨(wq n).2.1,H6 hu n⟩);have V:(dQ C {g' with hdr:=xE g'.hdr (st1.kL d.dst) vs} (st1.iC d.dst) p).ep=st1.ep:=HW;rw[V]at this;exact this
         |DZ X=>obtain⟨ws,hv,hr⟩:=hrv;obtain⟨all,atu⟩:=S3 hr;refine⟨xE g'.hdr (st1.kL d.dst) all,λt n=>H7 n,ws,hv,?_⟩;have:=Xi (c:=dQ C {g' with hdr:=xE g'.hdr (st1.kL d.dst) all} (st1.iC d.dst) p) (mk:=st1.kL d.dst) (hAS _) atu 0 aCI (λi u hu t n=>by rw[cR]at n;exact⟨(wq n).2.1,H6 hu n⟩);have V:(dQ C {g' with hdr:=xE g'.hdr (st1.kL d.dst) all} (st1.iC d.dst) p).ep=st1.ep:=HW;rw[V]at this;exact this
        obtain⟨R,hhd,E⟩:=E
        obtain⟨g2,hg2⟩:=J.XL d.dst (hw':=g'.hw) (hdr':=R) (fp:=fv) (st1:=st1.iC d.dst) Q9 Cj I4 HW (λt n=>⟨Lo n,hhd t n⟩)
         (Fr.refl _ _) (λ_ _ _ _=>rfl) (λ_ _ _ ho hu=>⟨ho,hu⟩) E hnv (λb l=>⟨(H b l).1,.inl (by rw[(B b l).1];rfl)⟩)
        exact auv _ _ _ ⟨g2,hg2⟩ j
       cases m:((Y k).cur&&cs.all AC.Qq)with
       |false=>rw[m]at j;obtain⟨g',J,B,hold⟩:=ahT p hw' aBF T' fr' ((Y k).back y) fp' fv A' (L8 cs) z aB4 aeF rfl E F.1 YJ aut Z H;exact tail _ g' J B hold j
       |true=>rw[m]at j;simp only[af]at m;have aA2:fp=[]:=abM aeB m.2;subst aA2;obtain⟨g',J,B,hold⟩:=hg.aoP s l m.2 p hw' aBF T' fr' ((Y k).back y) fp' fv A' (L8 cs) ⟨z.os,z.tape,z.output,z.size,λb l hm=>z.block b l (λhh=>hm (hh.resolve_right aD))⟩ aB4 aeF rfl E F.1 YJ aut (λb l=>⟨(Z b l).1,(Z b l).2.resolve_left aD⟩) (λb l=>⟨(H b l).1,(H b l).2.1.resolve_left aD,(H b l).2.2⟩);exact tail _ g' J B hold j
   cases j
  cases j
 cases j
theorem arg_val (l:c'.A=c.A)(hw:c'.w=c.w){v x}(h:iY c v x fp)(a:x.Su=O):fp=[]/\iY c' v x []:=by
 cases x with
 |DZ _=>cases a
 |val g cs=>
  obtain⟨b,m,h⟩:=h
  have f:∀(cs:Z AC)(b:oz)(fp:gw),cv c b cs fp->cs.all AC.Su=O->fp=[]/\cv c' b cs []:=by
   intro cs
   induction cs with
   |nil=>intro b fp h _;cases b with
    |nil=>exact⟨h,rfl⟩
    |cons _ _=>exact h.elim
   |cons x cs n=>
    intro b fp h a
    cases b with
    |nil=>exact h.elim
    |cons v b=>
     obtain⟨f1,f2,rfl,d,j⟩:=h
     simp only[cC,af]at a
     obtain⟨rfl,k2⟩:=n b f2 j a.2
     have a:=a.1
     have one:f1=[]/\kh c' v x []:=by
      cases x with
      |sl i e o=>cases i with|arg k=>exact⟨d.1,rfl,by rw[l,hw];exact d.2⟩|own _=>cases a|loc _ _=>cases a|nest _ _ _ _ _ _=>cases a|part _ _ _ _=>cases a|im _ _ _=>cases a
      |int _ _=>exact wh d rfl
      |bool _=>exact wh d rfl
      |str _=>exact wh d rfl
      |fn _=>exact wh d rfl
      |mP=>cases a
      |ptr _ _=>cases a
      |I7 _ _ _ _ _=>cases a
      |un=>cases a
      |bot=>cases a
     obtain⟨rfl,k1⟩:=one
     exact⟨rfl,[],[],rfl,k1,k2⟩
  obtain⟨e,k⟩:=f cs b fp h a;exact⟨e,b,m,k⟩
theorem adG (h:fL C g st a w []):∀(b:Z Operand),b.all (λx=>(st.rd x).Su)=O->uh C.A w (b.map a.eval) (b.map st.rd)
 |[],_=>trivial
 |x::b,d=>by simp only[cC,af]at d;exact⟨(arg_val (c:=dQ C g st w) (c':=gZ C.A (λ_=>0) w) rfl rfl (h.rd x) d.1).2,adG h b d.2⟩
theorem atP (hΓ:∀f,rC P f (Y f)){H}(ho:H.op=.call {callee:=.value f,args,argTypes:=X})(F:fL C g st a w []){k}(hf:st.rd f=.val G [.fn k])(hpr:(Y k).pr=O){K}(j:am7 Y H k args.toList st K=I r)next Q(auv:∀L a' w',ub C L a' w'->K L=I r->next a' w'):H.wp P a w next Q:=by
 have p:=F.rd f;rw[hf]at p;have p:=(gk p).1;unfold am7 at j;split at j
 ·rename_i d hd;split at j
  ·rename_i z;cases V:args.toList.all (λx=>(st.rd x).Su)with
   |false=>rw[V]at j;cases j
   |true=>
    rw[V]at j;simp only[ae]at j;cases B:(Y k).fn (args.toList.map st.rd)with
    |none=>rw[B]at j;cases j
    |some y=>
     rw[B]at j;simp only[U]at j;cases s:((Y k).back y).all AC.Su with
     |false=>rw[s]at j;cases j
     |true=>
      rw[s]at j;simp only[ae]at j;obtain⟨⟨fn,c,hfn,R,aus⟩,_,_,_,Z⟩:=hΓ k _ y B;have E:=Z hpr C.A w (args.toList.map a.eval) (λq b o hq=>Nat.lt_of_lt_of_le (C.hA q b o hq).1 F.frame.size) (adG F _ V);have N:(args.toList.map a.eval).toArray=args.map a.eval:=by apply gV;simp
      rw[N]at E;have MX:(execOp a.eval H).run P w=.ok (.enter k (args.map a.eval)) w:=by simp[execOp,ho,resolve,p,Deferred.ofValue,invoke,callFunc,hfn,R];simpa using aus
      unfold Oper.wp;rw[MX,Oper.upon_enter];refine E.mono ?_;rintro e w' ⟨b,arr,T,fr,hw,rfl,hb,D,MY,aeB,l⟩;show next (a.put H.dst (.pointer (I ⟨b,0,W⟩))) w'
      rw[fJ]at z;have S:=qB D;have hne:∀i x,g.gb i=I x->i≠b:=λi x hx e=>by have:=(F.ju i x hx).1;omega
      have hr1:cv ⟨λi=>if i=b then 0 else g.hw i,λt=>if t=d then b else g.β t,C.A,g.hdr,rE st,st.ep,mn st,w'⟩ arr.toList ((Y k).back y) []:=by
       have hv:iY (gZ C.A hw w') (.agg arr.toList.toArray) (.val O ((Y k).back y)) []:=⟨arr.toList,rfl,aeB⟩
       obtain⟨_,vs,M,h⟩:=arg_val (c:=gZ C.A hw w') (c':=⟨λi=>if i=b then 0 else g.hw i,λt=>if t=d then b else g.β t,C.A,g.hdr,rE st,st.ep,mn st,w'⟩) rfl rfl hv s;have:arr.toList=vs:=by have M:Value.agg arr.toList.toArray=.agg vs.toArray:=M;simp only[Value.agg.injEq]at M;simpa using congrArg Array.toList M
       rw[this];exact h
      obtain⟨g',hβ,h'⟩:=F.ahe d (cs:=(Y k).back y) (arr:=arr) (T:=T) (fr:=fr) (fp:=[]) (w':=w') (bnew:=b) (hw':=λi=>if i=b then 0 else g.hw i) (.inr ⟨hb,z⟩) ⟨l.os,l.tape,l.output,l.size,λi n _=>l.block i n (λm=>m)⟩ D MY S aD (λi x hx _ hn=>by simp[hn]) (λi o u ho hu=>by have n:i<w.heap.size:=World.block_lt_of_cell? w _ hu;exact⟨by simp[(J:i≠b)];exact ho,HC l hu⟩) hr1 List.nodup_nil aD (λi n=>by cases n);have hdl:d<st.boxes.length:=(aA.1 z).1;have hq:=h'.quiet (I d) (v:=.pointer (I ⟨b,0,W⟩)) (av:=.one (.ptr d 0)) (qZ ⟨by simp[dQ,hβ],⟨(Y k).back y,by rw[nT];simp[hdl]⟩,rfl⟩);rw[hd];exact auv _ _ _ ⟨g',hq⟩ j
  cases j
 cases j
theorem arz (R:∀f,rC P f (Y f)){j}(ho:j.op=.call {callee:=.value f,args,argTypes:=X})(h:ub C st a w){K}(d:Ma Y j f args.toList st K=I r)next Q(H:∀st' a' q,ub C st' a' q->K st'=I r->next a' q):j.wp P a w next Q:=by
 obtain⟨g,T⟩:=h;unfold Ma at d;split at d
 ·rename_i k hf
  have A:=T.rd f
  rw[hf]at A
  have A:=(gk A).1
  cases s:(Y k).bx with
  |true=>rw[s]at d;exact ato R ho T hf s d next Q H
  |false=>
  rw[s]at d
  simp only[ab]at d
  cases L:(Y k).pr with
  |true=>rw[L]at d;exact atP R ho T hf L d next Q H
  |false=>
  rw[L]at d
  simp only[ab]at d
  cases F:(Y k).io with
  |true=>rw[F]at d;cases d
  |false=>
  rw[F]at d
  simp only[ab]at d
  cases N:(Y k).fn (args.toList.map λx=>((st.rd x).fresh st).asArg st.ep)with
  |none=>rw[N]at d;cases d
  |some y0=>
   rw[N]at d
   simp only[U]at d
   obtain⟨⟨fn,c,hfn,aun,aus⟩,z,_⟩:=R k _ y0 N
   have z:=z F s
   have d:K ((st.iC j.dst).put j.dst (((Y k).res y0).L9 st.ep (st.kL j.dst)))=I r:=by unfold JD.res;cases aDX:(Y k).sel y0 with|true=>rw[aDX]at d;exact d|false=>rw[aDX]at d;exact d
   generalize hy0:(Y k).res y0=y at d z
   have aCb:=z (λ_ b o=>(dQ C g st w).S b o/\b<w.heap.size) w (args.toList.map a.eval) (λ_ _ _ h=>h.2) (adH T args.toList)
   have aum:(args.toList.map a.eval).toArray=args.map a.eval:=by apply gV;simp
   rw[aum]at aCb
   have MX:(execOp a.eval j).run P w=.ok (.enter k (args.map a.eval)) w:=by simp[execOp,ho,resolve,A,Deferred.ofValue,invoke,callFunc,hfn,aun];simpa using aus
   unfold Oper.wp
   rw[MX,Oper.upon_enter]
   refine aCb.mono ?_
   rintro e q ⟨v,hw,fp,rfl,aeB,hnd,E,n⟩
   show next (a.put j.dst v) q
   let hw':Nat->Nat:=λb=>if b∈fp then hw b else g.hw b
   have J:∀b,b<w.heap.size->b∉fp:=λb p hm=>by have:=(E b hm).1;omega
   have Z:∀(B:Nat->Value)(_:Bool)(b o:Nat),((dQ C g st w).S b o/\b<w.heap.size)->(dQ C {g with hw:=hw',hdr:=B} (st.iC j.dst) q).S b o:=by rintro B _ b o ⟨hs,p⟩;rcases hs with hs|hs;exact .inl hs;exact .inr (by simp only[dQ,hw',aK (J b p)];exact hs)
   have M:∃B,(∀t,rE st t->B t=g.hdr t)/\iY (dQ C {g with hw:=hw',hdr:=B} (st.iC j.dst) q) v (y.L9 st.ep (st.kL j.dst)) fp:=by
    have aCI:∀b∈fp,hw' b=hw b:=λb p=>by simp[hw',p]
    cases y with
    |val gg cs=>obtain⟨vs,WO,hr⟩:=aeB;refine⟨xE g.hdr (st.kL j.dst) vs,λt l=>H7 l,vs,WO,?_⟩;have:=I2 (c:=dQ C {g with hw:=hw',hdr:=xE g.hdr (st.kL j.dst) vs} (st.iC j.dst) q) (mk:=st.kL j.dst) (Z _) 0 hr aCI (λi u V t l=>by rw[cR]at l;exact⟨(wq l).2.1,H6 V l⟩);have D:(dQ C {g with hw:=hw',hdr:=xE g.hdr (st.kL j.dst) vs} (st.iC j.dst) q).ep=st.ep:=HW;rw[D]at this;exact this
    |DZ X=>obtain⟨ws,hv,hr⟩:=aeB;obtain⟨all,atu⟩:=S3 hr;refine⟨xE g.hdr (st.kL j.dst) all,λt l=>H7 l,ws,hv,?_⟩;have:=Xi (c:=dQ C {g with hw:=hw',hdr:=xE g.hdr (st.kL j.dst) all} (st.iC j.dst) q) (mk:=st.kL j.dst) (Z _) atu 0 aCI (λi u V t l=>by rw[cR]at l;exact⟨(wq l).2.1,H6 V l⟩);have D:(dQ C {g with hw:=hw',hdr:=xE g.hdr (st.kL j.dst) all} (st.iC j.dst) q).ep=st.ep:=HW;rw[D]at this;exact this
   obtain⟨B,hhd,M⟩:=M
   obtain⟨g',hg'⟩:=T.XL j.dst (hw':=hw') (hdr':=B) (fp:=fp) (st1:=st.iC j.dst) Q9 Cj I4 HW (λt l=>⟨Lo l,hhd t l⟩)
    ⟨n.os,n.tape,n.output,n.size,λb p _=>n.block b p (λm=>m)⟩ (λb x hx _=>by simp[hw',J b (T.ju b x hx).1])
    (λb o u ho V=>by have p:b<w.heap.size:=World.block_lt_of_cell? w _ V;exact⟨by simp[hw',J b p];exact ho,HC n V⟩) M hnd (λb p=>⟨(E b p).2,.inr (E b p).1⟩)
   exact H _ _ _ ⟨g',hg'⟩ d
 cases d
end Go.Dn
