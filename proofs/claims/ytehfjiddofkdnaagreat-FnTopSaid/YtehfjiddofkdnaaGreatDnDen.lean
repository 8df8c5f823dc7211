import Derived.Test.YtehfjiddofkdnaaGreatDnCall
/- The abstract semantics is sound. -/
open Option renaming some->I
namespace Go.Dn
open Go.RowKit
variable {P:Program} {C:Ctx} {st:AS} {a:Act} {w:World} {R:Type} {r:R}
variable {an:An} {Y:IY} {d:Nat} {x:Operand}
theorem anE:∀(f c:Z AC){r:Z AC},tj f c=I r->r.all AC.ain=true/\r.map AC.strip=r:=by
 intro f;induction f with
 |nil=>intro c r h;cases c with|nil=>simp[tj]at h;subst h;exact⟨rfl,rfl⟩|cons _ _=>simp[tj]at h
 |cons o f i=>
  intro c r h;cases c with
  |nil=>unfold tj at h;split at h<;>first|contradiction|cases h
  |cons s c=>
   unfold tj at h;split at h;contradiction;rename_i d e;injection d with d a;subst a;injection e with e b;subst b;rw[Bool.cond_eq_ite]at h;split at h;obtain⟨j,g,h⟩:=br.1 h;cases h;obtain⟨k1,k2⟩:=i _ g;exact⟨by simp[AC.ain,k1],by simp[AC.strip,k2]⟩;cases h
   all_goals first
    |cases h
    |(rename_i d e
      injection d with d a;subst a
      injection e with e b;subst b
      obtain⟨j,g,h⟩:=br.1 h
      cases h
      obtain⟨k1,k2⟩:=i _ g
      exact⟨by simp[AC.ain,AC.mj,k1],by simp[AC.strip,k2]⟩)
theorem akw:∀{m:Z AC},m.all AC.ain=true->∀{c:RC}{A:Rg}{p:Nat->Nat}{w:World}{d:oz}{o:gw},cv (gZ A p w) d m o->c.w=w->c.hw=p->cv c d (m.map AC.strip) o
 |[],_,c,A,p,w,d,o,h,_,_=>by cases d with|nil=>exact h|cons _ _=>exact h.elim
 |x::m,a,c,A,p,w,d,o,h,l,j=>by
  cases d with
  |nil=>exact h.elim
  |cons v d=>
   obtain⟨f1,f2,rfl,g,u⟩:=h;simp only[cC,af]at a;refine⟨f1,f2,rfl,?_,akw a.2 u l j⟩;cases x with
   |sl r e z=>cases r with|own t=>exact⟨by rw[l,j];exact g.1,aD⟩|arg _=>cases a.1|loc _ _=>cases a.1|nest _ _ _ _ _ _=>cases a.1|part _ _ _ _=>cases a.1|im _ _ _=>cases a.1
   |int k n=>exact g
   |bool b=>exact g
   |str s=>exact g
   |fn f=>exact g
   |mP=>cases a.1
   |ptr s q=>cases a.1
   |I7 r e y i q=>cases a.1
   |un=>cases a.1
   |bot=>cases a.1
theorem fL.asZ {g}(h:fL C g st a w []){v st'}(K:abU st x=I (v,st')):∃g',(∀s,g'.β s=g.β s)/\fL C g' st' a w [(a.eval x,v)]:=by
 unfold abU at K;have hrd:=h.rd x;split at K;rename_i gg cs hx;rw[hx]at hrd;obtain⟨vs0,WO,auD⟩:=hrd;split at K;rename_i rt j aA0;split at K;rename_i p l;split at K;rename_i V aDW;cases K;have aA9:=Zk _ _ aDW;have hio:=anE _ _ aDW
 have core:∀(o:oN)(f:AS){vs:oz}{S:gw},cv (dQ C g st w) vs p S->S.Nodup->(∀b∈S,g.gb b=I o)->f.ep=st.ep->f.iss=st.iss->(∀s,mn st s->mn f s)->
  ∃f1 f2 f3,S=f1++f2++f3/\(∀b∈f1++f3,b∉f2)/\
   (dQ C g st w).Le (dQ C {g with gb:=λb=>if b∈f2 then I (.hand 0) else g.gb b} f w)/\
   cv (dQ C {g with gb:=λb=>if b∈f2 then I (.hand 0) else g.gb b} f w) vs (fV p (rt.pos-j) (bz st.ep ((p.drop (rt.pos-j)).take cs.length))) (f1++f3)/\(f1++f3).Nodup/\
   Sq C {g with gb:=λb=>if b∈f2 then I (.hand 0) else g.gb b} f w 0 (a.eval x) (.val gg V):=by
  intro o f vs S R hn L hep al6 apz
  obtain⟨f1,f2,f3,rfl,r1,r2,r3⟩:=R.mid (rt.pos-j) cs.length
  have YJ:=hn
  rw[aH]at YJ
  have n1:=aX.1 YJ
  have n2:=aX.1 n1.2.1
  have n:(dQ C g st w).Le (dQ C {g with gb:=λb=>if b∈f2 then I (.hand 0) else g.gb b} f w):=
   ⟨rfl,λt ht=>⟨by show rE f t;have ht':rE st t:=ht;simpa[rE,al6]using ht',rfl⟩,λ_ _ _ _ _ hu=>hu,by show st.ep<=f.ep;omega,λs hs=>⟨apz s hs,rfl⟩,λ_ b o u ho hu=>⟨ho,hu⟩⟩
  refine⟨f1,f2,f3,rfl,?_,n,?_,?_,?_⟩
  ·intro b d h2
   rcases aB.1 d with d|d
   ·exact n1.2.2 b d b (bh _ h2) rfl
   ·exact n2.2.2 b h2 b d rfl
  ·have B:=ajC (c':=dQ C {g with gb:=λb=>if b∈f2 then I (.hand 0) else g.gb b} f w) (seg:=bz st.ep ((p.drop (rt.pos-j)).take cs.length)) rfl (by rw[r2.length];exact aA9)
    (r1.mono n (λb _=>⟨rfl,rfl⟩)) ((r2.bz).mono n aD) (r3.mono n (λb _=>⟨rfl,rfl⟩))
   rw[bm]at B
   exact B
  ·refine aX.2 ⟨n1.1,n2.2.1,?_⟩
   rintro b d c K rfl
   exact n1.2.2 b d b (bC _ K) rfl
  ·have aAU:=ajd (A:=λ_ _ _=>False) _ _ aDW auD r2
   have hin:=akw hio.1 (c:=dQ C g st w) aAU rfl rfl
   rw[hio.2]at hin
   refine⟨f2,⟨vs0,WO,hin.mono n (λb _=>⟨rfl,rfl⟩)⟩,n2.1,λb d=>?_⟩
   show(if b∈f2 then _ else _)=_
   rw[aI d]
 have aEx:∀(f2:gw)(o:oN),(∀b∈f2,g.gb b=I o)->∀b y,(if b∈f2 then I (oN.hand 0) else g.gb b)=I y->b<w.heap.size/\(C.w0.heap.size<=b\/C.M b):=by intro f2 o hf b y hy;by_cases U:b∈f2;exact h.ju b _ (hf b U);rw[aK U]at hy;exact h.ju b y hy
 have atI:∀(f2:gw)(o:oN),(∀b∈f2,g.gb b=I o)->∀b y,y≠o->g.gb b=I y->(if b∈f2 then I (oN.hand 0) else g.gb b)=I y:=by intro f2 o hf b y hyo d;rw[aK (λU=>hyo (by have:=hf b U;rw[d]at this;simpa using this))];exact d
 have X:∀{g2:Gh}{f:AS},Sq C g2 f w 0 (a.eval x) (.val gg V)->∀k u E,[(a.eval x,AV.val gg V)][k]?=I (u,E)->Sq C g2 f w k u E:=by
  intro g2 f hh k u E D;cases k with
  |zero=>simp only[dy,bI,Prod.mk.injEq]at D;obtain⟨rfl,rfl⟩:=D;exact hh
  |succ k=>simp at D
 cases rt with
 |slot s J=>
  simp only[AS.Rn]at l;cases hg:st.get s with
  |DZ ts=>rw[hg]at l;cases l
  |val g1 cs1=>
   rw[hg]at l;cases l;have e:∀m,st.Nt (.slot s J) m={st with slots:=st.slots.set s (.val g1 m)}:=λm=>by simp only[AS.Nt,hg,AS.put,iA]
   obtain⟨S,R,hn,L⟩:=h.slot s;rw[hg]at R;obtain⟨vs,aCi,R⟩:=R;obtain⟨f1,f2,f3,rfl,N,n,B,Q,P⟩:=core (.slot s) (st.Nt (.slot s J) (fV p (sn.pos (.slot s J)-j) (bz st.ep ((p.drop (sn.pos (.slot s J)-j)).take cs.length)))) R hn L (by rw[e]) (by rw[e]) (λ_ q=>by rw[e];exact q);have r:∀b∈f2,g.gb b=I (.slot s):=λb d=>L b (by simp[d]);refine⟨{g with gb:=λb=>if b∈f2 then I (.hand 0) else g.gb b},λ_=>rfl,h.step (λy=>y≠ .slot s) n h.defers ?_ ?_ h.frame (aEx f2 _ r) (λb y D d=>⟨atI f2 _ r b y D d,rfl,rfl⟩) ?_ ?_ (λk u E D=> .inr (X P k u E D)) (.inl ⟨aD,by rw[e]⟩)⟩;rw[e];simpa using h.size;rw[e];simpa using h.bsize;intro i E Y;rw[e]at Y;have z:(st.slots.set s (.val g1 _))[i]?=I E:=Y;by_cases Z:i=s;subst Z;rw[bX]at z;simp only[dm]at z;split at z;simp at z;subst z;refine .inr ⟨f1++f3,⟨vs,aCi,B⟩,Q,λb d=>?_⟩;show(if b∈f2 then _ else _)=_;rw[aK (N b d)];exact L b (by rcases aB.1 d with k|k<;>simp[k]);cases z;rw[aJ (cI Z)]at z;exact .inl ⟨by simpa using Z,z,rfl⟩;intro t m d;rw[e]at d;exact .inl ⟨aD,d,rfl⟩
 |box s J=>
  have hbx:st.boxes[s]?=I (I p):=by simp only[AS.Rn,fJ]at l;cases d:st.boxes[s]? with|none=>simp[d]at l|some q=>rw[d]at l;simp at l;rw[l]
  have aD3:s<st.boxes.length:=(aA.1 hbx).1;have e:∀m,st.Nt (.box s J) m={st with boxes:=st.boxes.set s (I m)}:=λm=>by simp only[AS.Nt,AS.gD,iA]
  obtain⟨arr,T,fr,S,acj,MY,R,hn,hnb,L,hl0,hw0⟩:=h.boxes s p hbx;obtain⟨f1,f2,f3,rfl,N,n,B,Q,P⟩:=core (.box s) (st.Nt (.box s J) (fV p (sn.pos (.box s J)-j) (bz st.ep ((p.drop (sn.pos (.box s J)-j)).take cs.length)))) R hn L (by rw[e]) (by rw[e]) (λt ht=>by rw[e];obtain⟨c0,hc0⟩:=ht;by_cases H:s=t;subst H;exact⟨_,by simp[aD3];rfl⟩;exact⟨c0,by rw[aJ H];exact hc0⟩);have r:∀b∈f2,g.gb b=I (.box s):=λb d=>L b (by simp[d]);refine⟨{g with gb:=λb=>if b∈f2 then I (.hand 0) else g.gb b},λ_=>rfl,h.step (λy=>y≠ .box s) n h.defers ?_ ?_ h.frame (aEx f2 _ r) (λb y D d=>⟨atI f2 _ r b y D d,rfl,rfl⟩) ?_ ?_ (λk u E D=> .inr (X P k u E D)) (.inl ⟨aD,by rw[e]⟩)⟩;rw[e];exact h.size;rw[e];simpa using h.bsize;intro i E Y;rw[e]at Y;exact .inl ⟨aD,Y,rfl⟩;intro t m d;rw[e]at d;have F:(st.boxes.set s (I _))[t]?=I (I m):=d;by_cases H:t=s;subst H;rw[bX]at F;simp only[dm,aD3]at F;simp at F;subst F;have hβ:g.β t∉f2:=λU=>hnb (by simp[U]);refine .inr ⟨arr,T,fr,f1++f3,acj,MY,B,Q,λU=>hnb (by rcases aB.1 U with k|k<;>simp[k]),λb d=>?_,?_,hw0⟩;show(if b∈f2 then _ else _)=_;rw[aK (N b d)];exact L b (by rcases aB.1 d with k|k<;>simp[k]);show(if g.β t∈f2 then _ else _)=_;rw[aK hβ];exact hl0;rw[aJ (cI H)]at F;exact .inl ⟨by simpa using H,F,rfl⟩
 |io J=>simp only[AS.Rn,bI]at l;subst l;obtain⟨S,R,hn,L⟩:=h.io;obtain⟨f1,f2,f3,rfl,N,n,B,Q,P⟩:=core .io (st.Nt (.io J) (fV st.io (sn.pos (.io J)-j) (bz st.ep ((st.io.drop (sn.pos (.io J)-j)).take cs.length)))) R hn L rfl rfl (λ_ q=>q);have r:∀b∈f2,g.gb b=I .io:=λb d=>L b (by simp[d]);refine⟨{g with gb:=λb=>if b∈f2 then I (.hand 0) else g.gb b},λ_=>rfl,h.step (λy=>y≠ .io) n h.defers h.size h.bsize h.frame (aEx f2 _ r) (λb y D d=>⟨atI f2 _ r b y D d,rfl,rfl⟩) (λi E Y=> .inl ⟨aD,Y,rfl⟩) (λt m d=> .inl ⟨aD,d,rfl⟩) (λk u E D=> .inr (X P k u E D)) (.inr ⟨f1++f3,B,Q,λb d=>?_⟩)⟩;show(if b∈f2 then _ else _)=_;rw[aK (N b d)];exact L b (by rcases aB.1 d with k|k<;>simp[k])
 cases K;cases K;cases K;cases K
theorem amH {o}(f:o.op=.assign x)(h:ub C st a w){K}(b:aax o x st K=I r):rD P C o a w K r:=by
 have i:(execOp a.eval o).run P w=.ok (.value (a.eval x)) w:=by simp[execOp,f]
 obtain⟨g,e⟩:=h;unfold aax at b;split at b;rename_i v j d;obtain⟨k,_,c⟩:=e.asZ d;exact⟨_,_,_,.inl i,fL.Lx c o.dst,b⟩;cases b
theorem Ym {E}(l:mL P E.ty){o T p}(q:o.dst=none)(t:o.op=.store T p x)(h:ub C st a w){K}(b:ER E T p x st K=I r):rD P C o a w K r:=by obtain⟨g,k⟩:=h;unfold ER at b;split at b;rename_i D s v m u;have c:=k.rd p;rw[u]at c;have c:=Jo c;split at b;rename_i B F y n;obtain⟨A,j,i⟩:=k.asZ n;split at b;rename_i z e;split at b;rename_i d;split at b;rename_i f;exact Pg l q t m (by rw[j];exact c) i e d.1 d.2 f b;cases b;cases b;cases b;cases b;cases b
structure Sound (P:Program) (E:Env) (Y:IY):Prop where
 ty:mL P E.ty
 eqs:adx P E.eqs
 fts:ajW P E.fts
 fns:∀f,rC P f (Y f)
 mixed:P.follows .mixedOrders=true
theorem rD.wp {o K}(h:rD P C o a w K r)next Q(c:∀b f e,ub C b f e->K b=I r->next f e):o.wp P a w next Q:=by obtain⟨v,e,b,d,i,g⟩:=h;unfold Oper.wp;rcases d with d|⟨rfl,d⟩;rw[d];exact c _ _ _ i g;rw[d];exact c _ _ _ i g
theorem ak8 {E}(j:Sound P E Y){o}(h:ub C st a w){K}(g:dM E Y an o st K=I r)next Q(b:∀l v A,ub C l v A->K l=I r->next v A):o.wp P a w next Q:=by
 unfold dM at g;split at g;·rename_i x d;exact(amX d h g).wp next Q b
 ·rename_i x d;split at g;·exact(amH d h g).wp next Q b
  ·exact(adK d h g).wp next Q b
 ·rename_i c x y d;exact(ano d h g).wp next Q b
 ·rename_i T d;exact(ag6 j.ty d h g).wp next Q b
 ·rename_i T x d;exact(aoQ d h g).wp next Q b
 ·rename_i T p d;exact(amO j.ty d h g).wp next Q b
 ·rename_i T p x d;split at g
  ·rename_i z;split at g;·exact(Ym j.ty z d h g).wp next Q b
   ·exact(ajJ j.ty z d h g).wp next Q b
  cases g
 ·rename_i x d;split at g;·rename_i s u q;exact(Zi d h q g).wp next Q b
  ·rename_i D e y i u q;exact(Tf d h q g).wp next Q b
  cases g
 ·rename_i op T x y B d;exact(aoO j.ty j.eqs d h g).wp next Q b
 ·rename_i op T x d;exact(asL d h g).wp next Q b
 ·rename_i S p f d;exact(ahE j.ty d h g).wp next Q b
 ·rename_i T x i d;exact(Xb j.ty d h g).wp next Q b
 ·rename_i T x i d;exact(aii j.ty d h g).wp next Q b
 ·rename_i T parts d;exact(ahj j.ty d h g).wp next Q b
 ·rename_i T len parts d;exact(UY j.ty d h g).wp next Q b
 ·rename_i T n c d;exact(Xn j.ty d h g).wp next Q b
 ·rename_i T x H F d;exact(ajg j.ty d h g).wp next Q b
 ·rename_i S t f d;exact(ad6 j.ty j.fts d h g).wp next Q b
 ·rename_i k m d;exact(alF j.ty d h g).wp next Q b
 ·rename_i src dst x d;exact(abX j.ty d h g).wp next Q b
 ·rename_i t i d;exact(ab6 d h g).wp next Q b
 ·rename_i k m d;exact(apZ j.ty d h g).wp next Q b
 ·rename_i k m d;exact(ap9 d h g).wp next Q b
 ·rename_i k m d;exact(ap7 d h g).wp next Q b
 ·rename_i k m d;exact(adF j.ty d h g).wp next Q b
 ·rename_i f k m d;exact arz j.fns d h g next Q b
 cases g
theorem ub.forget (h:ub C st a w)d:ub C (st.put d (.one .un)) (a.put d undef) w:=h.put d (λ_ _=>qZ ⟨rfl,rfl⟩)
theorem ub.known (h:ub C st a w){b}(f:st.get d=.val false [.bool b]):a.tmps.getD d undef=.bool b:=by obtain⟨g,c⟩:=h;obtain⟨i,e,_⟩:=c.slot d;rw[f]at e;exact Di e
theorem acR:a.put (I d) (a.tmps.getD d undef)=a:=by cases a with|mk tmps defers=>simp only[Act.put];congr 1;apply Array.ext_getElem?;intro i;rw[Array.getElem?_setIfInBounds];by_cases h:d=i;subst h;by_cases hs:d<tmps.size;simp[hs,Array.getD];simp[hs];simp[h]
theorem ub.refine(h:ub C st a w){b}(c:st.get d=.val false [.bool b]):ub C (st.put (I d) (.one (.bool b))) a w:=by have e:=h.known c;have:=h.put (I d) (v:=.bool b) (av:=.one (.bool b)) (λ_ _=>qZ ⟨rfl,rfl⟩);rw[<-e,acR]at this;exact this
theorem aex {E}(D:Sound P E Y){ops o}(h:ub C st a w){K}(c:jS E Y an ops.toList o st K=I r)next Q(i:∀v B F,ub C v B F->K v=I r->next B F): if Region.wanted o (yielded ops a.tmps) then o.wp P a w next Q\/(o.asks P a w/\LetsOut Q) else next (a.put o.dst undef) w:=by
 unfold jS at c;split at c;·rename_i f;rw[aI (by simp[Region.wanted,f])];exact .inl (ak8 D h c next Q i)
 ·rename_i j e f;split at c
  ·rename_i d p;have q:(ops[j]?).bind (·.dst)=I d:=by rw[fJ]at p;simpa using p
   split at c
   ·rename_i b x;have l:=h.known x;have n:d<a.tmps.size:=by rcases ca d a.tmps.size with y|k;exact y;simp[Array.getD,Nat.not_lt.2 k,undef]at l
    have A:yielded ops a.tmps j=I b:=by
     unfold yielded;rw[q];have:a.tmps[d]?=I (.bool b):=by rw[Array.getElem?_eq_getElem n];simp[Array.getD,n]at l;rw[l]
     simp[this]
    have s:=h.refine x
    have main:∀t,b=t->(if t==e then dM E Y an o (st.put (I d) (.one (.bool t))) K else K ((st.put (I d) (.one (.bool t))).put o.dst (.one .un)))=I r->
     if Region.wanted o (yielded ops a.tmps) then o.wp P a w next Q\/(o.asks P a w/\LetsOut Q) else next (a.put o.dst undef) w:=by
     rintro t rfl c
     have z:Region.wanted o (yielded ops a.tmps)=(b==e):=by simp only[Region.wanted,f,A];cases b<;>cases e<;>rfl
     rw[z]
     cases m:(b==e)with
     |true=>
      rw[m]at c
      simp only[dm]at c⊢
      exact .inl (ak8 D s c next Q i)
     |false=>
      rw[m]at c
      simp only[bD,cY]at c⊢
      exact i _ _ _ (s.forget o.dst) c
    cases b with|true=>exact main true rfl c|false=>exact main false rfl c
   rename_i x;obtain⟨g,H⟩:=id h;obtain⟨J,s,_⟩:=H.slot d;rw[x]at s;have u:=(gk s).1;have A:yielded ops a.tmps j=none:=by
    unfold yielded;rw[q];simp only[gi];rcases ca d a.tmps.size with y|k;have:a.tmps[d]?=I undef:=by rw[Array.getElem?_eq_getElem y];simp[Array.getD,y]at u;rw[u]
    rw[this];rfl;rw[Array.getElem?_eq_none k]
   have z:Region.wanted o (yielded ops a.tmps)=false:=by simp only[Region.wanted,f,A];cases e<;>rfl
   rw[z];exact i _ _ _ (h.forget o.dst) c;cases c
  cases c
theorem aqj {E:Env}(j:Sound P E Y){ops:Array Oper}{Q:Exit->Act->World->Prop}{K:AS->aS R}
 (k:∀b e f,ub C b e f->K b=I r->Q .normal e f):∀(n i:Nat)(st:AS)(a:Act)(w:World),i+n=ops.size->ub C st a w->acM E Y an ops.toList (ops.toList.drop i) st K=I r->
  wpOps P ops Q ((List.range' i n)) a w
 |0,i,st,a,w,l,h,d=>by rw[dz (by simp;omega)]at d;exact k st a w h d
 |n+1,i,st,a,w,l,h,d=>by
  have c:i<ops.toList.length:=by simp;omega
  rw[bZ c]at d;have m:ops[i]?=I ops.toList[i]:=by rw[<-du];exact ah c
  rw[List.range'_succ,wpOps,m];simp only;have:=aex j (ops:=ops) h d (wpOps P ops Q (List.range' (i+1) n)) Q (λb e f o g=>aqj j k n (i+1) b e f J o g);exact this
end Go.Dn
