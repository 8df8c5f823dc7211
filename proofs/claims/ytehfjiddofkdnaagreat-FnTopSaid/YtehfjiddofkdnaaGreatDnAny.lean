import Derived.Test.YtehfjiddofkdnaaGreatDnDraw
/- Drawn regions: in whatever order, the outcome is one. -/
open Bool renaming false->G,true->O
open Option renaming some->I
namespace Go.Dn
open Go.RowKit
variable {P:Program} {C:Ctx} {E:Env} {Γ:IY} {an:An}
variable {y:Array Bool} {A:Z gw}
def aov (a:Array Oper)(L:Nat->Prop):=∀i o,a[i]?=I o->L i->∀k∈Jn o,L k
theorem mem_ready {a i}(h:i∈Region.ready .any a y): ∃o,a[i]?=I o/\i<a.size/\y.getD i O=G/\∀k∈Jn o,y.getD k G=true:=by
 unfold Region.ready at h;rw[List.mem_filter]at h;obtain⟨m,h⟩:=h;have d:i<a.size:=by simpa using m
 simp only[af,aW]at h;have f:a[i]?=I a[i]:=Array.getElem?_eq_getElem d;rw[f]at h;simp only[eP,gj,Array.all_eq_true]at h;refine⟨a[i],f,d,h.1,λk c=>?_⟩;simp only[Jn,cX,List.mem_filter]at c;obtain⟨e,⟨l,g⟩,rfl⟩:=c;obtain⟨j,n,b⟩:=Array.mem_iff_getElem.1 (Array.mem_toList_iff.1 l);have:=h.2 j n;rw[b]at this;simpa[g]using this
theorem aqy {a i o}(b:a[i]?=I o)(d:y.getD i O=G)(f:∀k∈Jn o,y.getD k G=O):i∈Region.ready .any a y:=by have e:i<a.size:=(Array.getElem?_eq_some_iff.1 b).1;unfold Region.ready;rw[List.mem_filter];refine⟨by simpa using e,?_⟩;rw[b,d];simp only[bS,bg,eP,gj,Array.all_eq_true];intro j g;cases c:Region.binds .any o.after[j]with|false=>rfl|true=>simp only[ak,cq];refine f _ ?_;simp only[Jn,cX,List.mem_filter];exact⟨o.after[j],⟨aD,c⟩,rfl⟩
theorem ath (hΓ:∀f,(Γ f).io=G/\((Γ f).bx=O->(Γ f).cur=O)/\(Γ f).pr=G)(hS:Sound P E Γ){ops X Q r}(YI:∀i o,ops[i]?=I o->∀k∈Jn o,k<i)(aDx:∀i j p R,j<i->ops[i]?=I p->ops[j]?=I R->(∀L:Nat->Prop,aov ops L->(∀k∈Jn p,L k)->L j)\/VV an ops.toList (X j) (X i) R p=O)(B:∀a w,ub C r a w->Q .normal a w): ∀(rem:gw)(y:Array Bool)(st:AS)(a:Act)(w:World),rem.Pairwise (·<·)->(∀i,i∈rem↔i<ops.size/\y.getD i O=G)->y.size=ops.size-> (∀i o,ops[i]?=I o->y.getD i G=O->∀k∈Jn o,y.getD k G=O)->ub C st a w->Zl E Γ an ops.toList X rem st=I r-> wpAny P .any ops Q rem.length y a w:=by
 intro rem;generalize hn:rem.length=n;induction n generalizing rem with
 |zero=>intro y st a w _ d _ _ hs hr;have:rem=[]:=cB hn;subst this;cases hr;refine⟨?_,B a w hs⟩;cases hrd:Region.ready .any ops y with|nil=>rfl|cons i l=>obtain⟨o,h,A,hl,_⟩:=mem_ready (i:=i) (by rw[hrd];simp);have:=(d i).2 ⟨A,hl⟩;cases this
 |succ n ih=>
  intro y st a w u d hsz D hs hr;have N:∀k,k<ops.size->y.getD k G= !(decide (k∈rem)):=by intro k s;have e:=d k;have hk':k<y.size:=J;simp only[Array.getD,hk',dite_true]at e⊢;by_cases b:k∈rem;have:=(e.1 b).2;simpa[b]using this;have:¬(y[k]=G):=λz=>b (e.2 ⟨s,z⟩);simpa[b]using this
  refine⟨λaDk=>?_,λi A=>?_⟩;exfalso;cases rem with
  |nil=>simp at hn
  |cons i l=>
   have A:=(d i).1 aD;have h:ops[i]?=I ops[i]:=Array.getElem?_eq_getElem A.1;have:i∈Region.ready .any ops y:=by
    refine aqy h A.2 λk s=>?_;have c:=YI i _ h k s;rw[N k J];have:k∉i::l:=by intro b;rcases bW.1 b with rfl|b;omega;have:=(List.pairwise_cons.1 u).1 k b;omega
    simp[this]
   rw[aDk]at this;cases this
  ·obtain⟨p,h,V,hlf,M⟩:=mem_ready A;have Y:i∈rem:=(d i).2 ⟨V,hlf⟩;obtain⟨x,post,rfl⟩:=List.append_of_mem Y;have H:nth ops.toList i=I p:=by rw[fJ,du];exact h
   have v:=List.pairwise_append.1 u
   have F:=X0 (E:=E) (Γ:=Γ) (an:=an) (X:=X) hΓ H x post st r (λj Z R K=>by
    have hji:j<i:=v.2.2 j Z i aD;have aDs:ops[j]?=I R:=by rw[fJ,du]at K;exact K
    rcases aDx i j p R hji h aDs with T|U;exfalso;have hL:=T (λk=>y.getD k G=O) (λk o s hlk=>D k o s hlk) M;have:=(d j).1 (by simp[Z]);simp only[N j this.1]at hL;simp[Z]at hL;exact U) hr
   simp only[Zl,H]at F;obtain⟨S,e,h2⟩:=br.1 F;have hg:jS E Γ an ops.toList p st I=I S:=by unfold dI at e;cases z:fb E an (X i) p st with|false=>rw[z]at e;cases e|true=>rw[z]at e;exact e
   have hnd:i∉x++post:=by intro b;rcases aB.1 b with b|b;have:=v.2.2 i b i aD;omega;have:=(List.pairwise_cons.1 v.2.1).1 i b;omega
   have aEb:=aex (P:=P) (C:=C) (an:=an) hS (ops:=ops) hs hg (wpAny P .any ops Q n (y.setIfInBounds i O)) Q (λst' a' w' hs' he=>by
    cases he;refine ih (x++post) (by simp at hn⊢;omega) (y.setIfInBounds i O) S a' w' ?_ ?_ (by simpa using hsz) ?_ hs' h2;exact List.Pairwise.sublist (List.Sublist.append (List.Sublist.refl _) (List.sublist_cons_self _ _)) u;intro k;have s:=d k;by_cases c:k=i;subst c;constructor;intro b;exact absurd b hnd;rintro⟨_,z⟩;simp[dR,(J:k<y.size)]at z;have g:(y.setIfInBounds i O).getD k O=y.getD k true:=by simp[dR,cI c]
    rw[g,<-s];simp[c];intro k o t hkl m b;have g:∀q,y.getD q G=O->(y.setIfInBounds i O).getD q G=true:=by
     intro q B;simp only[dR,Array.getElem?_setIfInBounds]at B⊢;split;·split<;>first|rfl|(rename_i e h2;subst e;rw[Array.getElem?_eq_none J]at B;exact B)
     exact B
    by_cases c:k=i;subst c;rw[h]at t;cases t;exact g m (M m b);refine g m (D k o t ?_ m b);simpa[dR,Array.getElem?_setIfInBounds,cI c]using hkl)
   unfold wpOp;rw[h];exact aEb
theorem aiE {a b x}(h:x∈adq a b):x∈a\/x∈b:=by unfold adq at h;induction a generalizing b with|nil=>exact .inr h|cons y a d=>rw[List.foldl_cons]at h;rcases d h with h|h;exact .inl (by simp[h]);cases c:b.contains y with|true=>rw[c]at h;exact .inr h|false=>rw[c]at h;rcases bW.1 h with rfl|h;exact .inl aD;exact .inr h
def aoB a(i j:Nat):=∀o,a[i]?=I o->∀L:Nat->Prop,aov a L->(∀k∈Jn o,L k)->L j
theorem ZF {b:Array Oper}:∀(r done:Z Oper)(a:Z gw),b.toList=done++r->a.length=done.length->(∀i l,nth a i=I l->∀j∈l,aoB b i j)->
 ∀i l,nth (adD r a) i=I l->∀j∈l,aoB b i j
 |[],done,a,_,_,h=>h
 |o::r,done,a,p,g,h=>by
  refine ZF r (done++[o]) _ (by rw[p];simp) (by simp[g]) ?_;intro i l f j D;rw[fJ]at f;rcases ca i a.length with H|z;rw[bE H]at f;exact h i l (by rw[fJ];exact f) j D;rw[bN z]at f;have E:i=a.length:=by cases v:i-a.length with|zero=>omega|succ n=>rw[v]at f;simp at f
  subst E;simp only[kz,dy,bI]at f;subst f;have A:b[a.length]?=I o:=by rw[<-du,p,g,bN (bq _)];simp
  have B:∀(u:gw)(w:gw),(∀k∈u,k∈Jn o)->(∀x∈w,aoB b a.length x)->∀x∈u.foldl (λs j=>adq (j::(nth a j).getD []) s) w,aoB b a.length x:=by
   intro u;induction u with
   |nil=>intro w _ y;exact y
   |cons k u N=>
    intro w t y;rw[List.foldl_cons];refine N _ (λm K=>t m (by simp[K])) ?_;intro x d;rcases aiE d with d|d;intro P q L C M;rw[A]at q;cases q;have v:=M k (t k aD);rcases bW.1 d with rfl|d;exact v;cases c:nth a k with
    |none=>rw[c]at d;cases d
    |some l=>
     rw[c]at d;have F:k<a.length:=by rw[fJ]at c;exact(aA.1 c).1
     have e:∃ok,b[k]?=I ok:=by rw[<-du,p,bE J];exact⟨_,ah J⟩
     obtain⟨ok,e⟩:=e;exact h k l c x d ok e L C (C k ok e v)
    exact y x d
  exact B (Jn o) [] (λ_ h=>h) aD j D
theorem ang {a i k}(h:anf (adD a.toList []) i k=O):aoB a i k:=by unfold anf at h;cases b:nth (adD a.toList []) i with|none=>rw[b]at h;simp at h|some l=>rw[b]at h;exact ZF a.toList [] [] rfl rfl (λi l b=>by simp[nth]at b) i l b k (by simpa using h)
theorem Un {a:Z Oper}{i:Nat}{d:Oper}:∀(l:Z Oper)(j:Nat),Xx an a A i d j l=O->∀k ok,l[k]?=I ok->j+k<i->(anf A i (j+k)||VV an a (Ag an A (j+k) 0 a) (Ag an A i 0 a) ok d)=O
 |[],j,_,k,ok,b,_=>by simp at b
 |f::l,j,h,k,ok,b,e=>by
  simp only[Xx]at h;have c:Nat.ble i j=false:=by cases c:Nat.ble i j with|false=>rfl|true=>have:=Nat.le_of_ble_eq_true c;omega
  rw[c]at h;simp only[ab,af]at h;cases k with|zero=>simp at b;subst b;exact h.1|succ k=>have:=Un l (j+1) h.2 k ok (by simpa using b) J;rwa[(J:j+1+k=j+(k+1))]at this
theorem Uo {a:Z Oper}:∀(l:Z Oper)(i:Nat),acO an a A i l=O->∀k ok,l[k]?=I ok->(∀m∈Jn ok,m<i+k)/\Xx an a A (i+k) ok 0 a=O
 |[],i,_,k,ok,b=>by simp at b
 |o::l,i,h,k,ok,b=>by simp only[acO,af,aL]at h;cases k with|zero=>simp at b;subst b;exact⟨λm c=>Nat.le_of_ble_eq_true (h.1.1 m c),h.1.2⟩|succ k=>have:=Uo l (i+1) h.2 k ok (by simpa using b);rwa[(J:i+1+k=i+(k+1))]at this
section
variable {R:Type} {r:R} {st:AS} {a:Act} {w:World}
theorem Wi (a:Z Oper)(A:Z gw):∀(l:Z Oper)(i:Nat)(st:AS)(K:AS->aS R),OO E Γ an a A i l st K=(OO E Γ an a A i l st I).bind K
 |[],i,st,K=>rfl
 |o::l,i,st,K=>by simp only[OO];cases fb E an (Ag an A i 0 a) o st with|false=>rfl|true=>simp only[ae];rw[xC,xC (K:=λb=>OO E Γ an a A (i+1) l b I),Option.bind_assoc];congr 1;funext b;exact Wi a A l (i+1) b K
theorem ZP (a:Z Oper)(A:Z gw):∀(n i:Nat)(st:AS),i+n=a.length->OO E Γ an a A i (a.drop i) st I=Zl E Γ an a (λk=>Ag an A k 0 a) (List.range' i n) st
 |0,i,st,d=>by rw[dz J];rfl
 |n+1,i,st,d=>by
  have b:i<a.length:=J;rw[bZ b,List.range'_succ];have e:nth a i=I a[i]:=by rw[fJ];exact ah b
  simp only[OO,Zl,e,dI];cases fb E an (Ag an A i 0 a) a[i] st with|false=>rfl|true=>simp only[ae];rw[xC];congr 1;funext c;exact ZP a A n (i+1) c J
theorem Wo a d(K:AS->aS R):MK E Γ an a d st K=(MK E Γ an a d st I).bind K:=by unfold MK;cases d with|false=>exact aaM a a st K|true=>simp only[ae];cases adY an a with|false=>rfl|true=>exact Wi a _ a 0 st K
theorem aaH (c:∀f,(Γ f).io=G/\(Γ f).bx=G/\(Γ f).pr=G){a:Z Oper}{A:Z gw}(m:∀o∈a,jV an (PF a) o=O):∀(l:Z Oper)(i:Nat)(st b:AS),(∀o∈l,o∈a)->OO E Γ an a A i l st I=I b->lU (PF a) st b
 |[],i,st,b,_,h=>by cases h;exact lU.refl _ _
 |o::l,i,st,b,e,h=>by simp only[OO]at h;cases k:fb E an (Ag an A i 0 a) o st with|false=>rw[k]at h;cases h|true=>rw[k]at h;simp only[ae]at h;rw[xC]at h;cases d:jS E Γ an a o st I with|none=>rw[d]at h;cases h|some j=>rw[d]at h;exact(Xs c (e o aD) (m o (e o aD)) d).trans (aaH c m l (i+1) j b (λn g=>e n (by simp[g])) h)
theorem am3 (c:∀f,(Γ f).io=G/\(Γ f).bx=G/\(Γ f).pr=G){a d}(g:∀o∈a,jV an (PF a) o=O){b}(h:MK E Γ an a d st I=I b):lU (PF a) st b:=by unfold MK at h;cases d with|false=>exact aft c g a st b (λ_ h=>h) h|true=>simp only[ae]at h;cases e:adY an a with|false=>rw[e]at h;cases h|true=>rw[e]at h;exact aaH (asH c) g a 0 st b (λ_ h=>h) h
theorem akf (p:Sound P E Γ){id ops d}(h:ub C st a w){r}(b:MK E Γ an ops.toList d st I=I r){Q}(v:∀n t,ub C r n t->Q .normal n t):(Code.region id ops d).wp P Q a w:=by unfold MK at b;cases d with|false=>apply wp_region;rw[List.range_eq_range'];exact aqj p (K:=some) (r:=r) (λN n t H z=>by cases z;exact v _ _ H) ops.size 0 st a w J h (by simpa using b)|true=>simp only[ae]at b;cases l:adY an ops.toList with|false=>rw[l]at b;cases b|true=>rw[l]at b;simp only[ae]at b;have g:=ZP (E:=E) (Γ:=Γ.Qh) (an:=an) ops.toList (adD ops.toList []) ops.size 0 st aD;rw[ik,b]at g;unfold adY at l;have f:=Uo ops.toList 0 l;apply wp_region_any p.mixed;have s:ub C st a {w with drawn:=w.drawn+1}:=h.grow (Fr.drew _ w);have:=ath (an:=an) (C:=C) (asG Γ) p.Qh (ops:=ops) (X:=λk=>Ag an (adD ops.toList []) k 0 ops.toList) (Q:=Q) (r:=r) (λi o D k b=>by have:=(f i o (by rw[du];exact D)).1 k b;simpa using this) (λi j x M B m A=>by have u:=(f i x (by rw[du];exact m)).2;rw[cR]at u;have c:=Un ops.toList 0 u j M (by rw[du];exact A) J;rw[cR,dW]at c;rcases c with c|c;exact .inl (λL y F=>ang c x m L y F);exact .inr c) v (List.range' 0 ops.size) (Array.replicate ops.size G) st a {w with drawn:=w.drawn+1} List.pairwise_lt_range' (λi=>by rw[List.mem_range'_1];constructor;rintro⟨_,m⟩;have e:i<ops.size:=J;exact⟨e,by simp[Array.getD,e]⟩;rintro⟨m,_⟩;omega) aD (λi o _ q=>by exfalso;simp only[Array.getD,Array.size_replicate,Array.getInternal_eq_getElem,Array.getElem_replicate]at q;split at q<;>cases q) s g.symm;rwa[List.length_range']at this
end
end Go.Dn
