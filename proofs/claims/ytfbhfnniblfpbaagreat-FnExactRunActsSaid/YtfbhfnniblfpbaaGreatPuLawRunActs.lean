import Derived.KernelRfl
import Derived.Test.YtfbhfnniblfpbaaGreatPuX2
namespace Go.Pu
open Go.Dn
set_option linter.unusedSimpArgs false
set_option linter.unusedVariables false
noncomputable section
variable {e:CT} {h:Host} {f:Int->au Bytes} {α:Type} {l:aq aA}
/- Marks, once for all types: what the laws write into data, and that it is found there again. -/
theorem IW {R:Type}(K:Int->Bytes->au R):∀(n:Nat)(v:Int)(s:Bytes)(m:Nat),0<=v->v<=1000000000000000->v<10^n->s.length+n<=1000->n<m->∃s':Bytes,s'.length<=1000/\∃v',aI (sB K) m (v,s)=K v' s'
 |0,v,s,m,h0,_,h1,hs,hm=>by
  have hv:v=0:=by simp at h1;omega
  subst hv;cases m with|zero=>omega|succ m=>exact⟨s,by omega,0,by rw[aI];rfl⟩
 |n+1,v,s,m,h0,hb,h1,hs,hm=>by cases m with|zero=>omega|succ m=>rw[aI];simp only[sB];by_cases hv:v>0;have hq:Int.tdiv v 10=v/10:=Int.tdiv_eq_ediv_of_nonneg h0;rw[ax hv];simp only[af];rw[mI,aQ (by simp[aM];omega),mI,hq,aj (n:=v/10) (by omega) (by omega)];exact IW K n (v/10) _ m (by omega) (by omega) (by rw[Int.pow_succ]at h1;omega) (by simp[aM];omega) (by omega);rw[ar hv];exact⟨s,by omega,v,rfl⟩
theorem QQ (k:Int)(h1:1<=k)(h2:k<=1000000000000000):∃s,cA k=some s:=by have xS:=cR;unfold cA;rw[gr];simp only[ae];obtain⟨s,hs,v,h⟩:=IW (λ(_:Int) (y2:Bytes)=>room (List.length ([109]:Bytes)+List.length y2) (some (([109]:Bytes)++y2))) 16 k [] fuel (by omega) h2 (by omega) (by simp) (by omega);rw[h,aQ (by simp;omega)];exact⟨_,rfl⟩
def txt (k:Int):Bytes:=(cA k).getD []
theorem ly (k:Int)(h1:1<=k)(h2:k<=1000000000000000):cA k=some (txt k):=by obtain⟨s,hs⟩:=QQ k h1 h2;rw[txt,hs];rfl
def lP:(t:CT)->t.D->Nat
 | .int _,_=>1
 | .bool,_=>1
 | .str,_=>1
 | .sl e,xs=>(xs.map (lP e)).sum
 | .pair a b,x=>lP a x.1+lP b x.2
def mkL (f:α->Int->α)(c:α->Nat):aq α->Int->aq α
 |[],_=>[]
 |x::xs,k=>f x k::mkL f c xs (k+c x)
def mk:(t:CT)->t.D->Int->t.D
 | .int _,_,k=>k
 | .bool,_,k=>Int.tmod k 3==0
 | .str,_,k=>txt k
 | .sl e,xs,k=>mkL (mk e) (lP e) xs k
 | .pair a b,x,k=>(mk a x.1 k,mk b x.2 (k+lP a x.1))
def di:(t:CT)->t.D->Nat
 | .int _,_=>0
 | .bool,_=>0
 | .str,_=>0
 | .sl e,xs=>lP (.sl e) xs
 | .pair a b,x=>di a x.1+di b x.2
def Gv:(t:CT)->t.D->Int->t.D
 | .int _,x,_=>x
 | .bool,x,_=>x
 | .str,x,_=>x
 | .sl e,xs,k=>mk (.sl e) xs k
 | .pair a b,x,k=>(Gv a x.1 k,Gv b x.2 (k+di a x.1))
theorem LR {k:IntKind}(x k':Int):mk (.int k) x k'=k':=rfl
theorem Ib (x:Bool)(k:Int):mk .bool x k=(Int.tmod k 3==0):=rfl
theorem LU (x:Bytes)(k:Int):mk .str x k=txt k:=rfl
theorem DD {a b:CT}(x:a.D×b.D)(k:Int):mk (.pair a b) x k=(mk a x.1 k,mk b x.2 (k+lP a x.1)):=rfl
theorem lZ {k:IntKind}(x:Int):lP (.int k) x=1:=rfl
theorem ju (x:Bool):lP .bool x=1:=rfl
theorem ma (x:Bytes):lP .str x=1:=rfl
theorem jv {a b:CT}(x:a.D×b.D):lP (.pair a b) x=lP a x.1+lP b x.2:=rfl
theorem uS {k:IntKind}(x k':Int):Gv (.int k) x k'=x:=rfl
theorem pz (x:Bool)(k:Int):Gv .bool x k=x:=rfl
theorem uT (x:Bytes)(k:Int):Gv .str x k=x:=rfl
theorem pA {a b:CT}(x:a.D×b.D)(k:Int):Gv (.pair a b) x k=(Gv a x.1 k,Gv b x.2 (k+di a x.1)):=rfl
theorem pe {k:IntKind}(x:Int):di (.int k) x=0:=rfl
theorem lQ (x:Bool):di .bool x=0:=rfl
theorem pg (x:Bytes):di .str x=0:=rfl
theorem lR {a b:CT}(x:a.D×b.D):di (.pair a b) x=di a x.1+di b x.2:=rfl
theorem ne3:¬(3:Int)=0:=by omega
theorem rQ {n:Int}(h:¬n<0):decide (n<0)=false:=ar h
theorem oC {l:aq α}{i:Nat}(x:α)(h:i<l.length):idx (l.set i x) (i:Int)=some x:=by rw[NJ,List.getElem?_set_self h]
theorem R5 {T:((aq e.D×Int×Int×aq e.D)->au (Int×aq e.D))->(aq e.D×Int×Int×aq e.D)->au (Int×aq e.D)}
 (hs:∀(l:aq e.D)(i:Nat)(hi:i<l.length)(k:Int) nx,1<=k->k+lP e l[i]<=1000000000000000->l.length<=1000000000000->br 1000000000000 e l[i]->
  T nx (l,k,(i:Int),l)=nx (l.set i (mk e l[i] k),k+lP e l[i],(i:Int)+1,l.set i (mk e l[i] k)))
 (hf:∀(l:aq e.D)(k:Int) nx,T nx (l,k,(l.length:Int),l)=some (k,l)):
 ∀(xs pre:aq e.D)(k:Int)(n:Nat),1<=k->k+lP (.sl e) xs<=1000000000000000->pre.length+xs.length<=1000000000000->(∀x∈xs,br 1000000000000 e x)->xs.length<n->
  aI T n (pre++xs,k,(pre.length:Int),pre++xs)=some (k+lP (.sl e) xs,pre++mk (.sl e) xs k)
 |[],pre,k,n,_,_,_,_,hn=>by cases n with|zero=>omega|succ n=>rw[aI,bp,hf];simp[lP,mk,mkL]
 |x::xs,pre,k,n,h1,h2,h3,h4,hn=>by
  cases n with
  |zero=>omega
  |succ n=>
   have hc:lP (.sl e) (x::xs)=lP e x+lP (.sl e) xs:=by simp[lP]
   have hi:pre.length<(pre++x::xs).length:=by simp
   have hx:(pre++x::xs)[pre.length]=x:=by simp
   simp only[bC]at h3 hn;rw[aI,hs _ pre.length hi k _ h1 (by rw[hx];omega) (by simp;omega) (by rw[hx];exact h4 x (by simp)),hx];have DT:(pre++x::xs).set pre.length (mk e x k)=(pre++[mk e x k])++xs:=by rw[List.set_append_right _ _ (aR _),lO,List.set_cons_zero,aN];rfl
   have hl:((pre.length:Int)+1)=(((pre++[mk e x k]).length:Nat):Int):=by simp
   rw[DT,hl,R5 hs hf xs _ _ n (by omega) (by omega) (by simp;omega) (λy hy=>h4 y (by simp[hy])) (by omega)];rw[hc];congr 1;refine Prod.ext (by simp only;omega) ?_;simp only[mk,mkL,aN,List.singleton_append]
theorem RD {T:aq e.D->((Int×Int)->au Int)->(Int×Int)->au Int}
 (hs:∀(l:aq e.D)(i:Nat)(hi:i<l.length)(x:e.D)(k:Int) nx,l[i]=mk e x k->1<=k->k+lP e x<=1000000000000000->l.length<=1000000000000->br 1000000000000 e x->
  T l nx (k,(i:Int))=nx (k+lP e x,(i:Int)+1))
 (hf:∀(l:aq e.D)(k:Int) nx,T l nx (k,(l.length:Int))=some k):
 ∀(xs pre:aq e.D)(k:Int)(n:Nat),1<=k->k+lP (.sl e) xs<=1000000000000000->pre.length+xs.length<=1000000000000->(∀x∈xs,br 1000000000000 e x)->xs.length<n->
  aI (T (pre++mk (.sl e) xs k)) n (k,(pre.length:Int))=some (k+lP (.sl e) xs)
 |[],pre,k,n,_,_,_,_,hn=>by
  cases n with
  |zero=>omega
  |succ n=>
   have:pre++mk (.sl e) ([]:aq e.D) k=pre:=by simp[mk,mkL]
   rw[aI,this,hf];simp[lP]
 |x::xs,pre,k,n,h1,h2,h3,h4,hn=>by
  cases n with
  |zero=>omega
  |succ n=>
   have hc:lP (.sl e) (x::xs)=lP e x+lP (.sl e) xs:=by simp[lP]
   have hm:pre++mk (.sl e) (x::xs) k=(pre++[mk e x k])++mk (.sl e) xs (k+lP e x):=by simp[mk,mkL]
   have hlen:∀(ys:aq e.D)(k:Int),(mk (.sl e) ys k).length=ys.length:=by intro ys;induction ys with|nil=>intro k;rfl|cons y ys ih=>intro k;have:=ih (k+lP e y);simp only[mk,mkL,bC]at this⊢;omega
   simp only[bC]at h3 hn;rw[aI,hm,hs _ pre.length (by simp) x k _ (by simp) h1 (by omega) (by have:=hlen xs (k+lP e x);simp;omega) (h4 x (by simp))];have hl:((pre.length:Int)+1)=(((pre++[mk e x k]).length:Nat):Int):=by simp
   rw[hl,RD hs hf xs _ _ n (by omega) (by omega) (by simp;omega) (λy hy=>h4 y (by simp[hy])) (by omega),hc];congr 1;omega
def UR (t:CT)(mark:t.D->Int->au (Int×t.D)):Prop:=∀(a:t.D)(_:br 1000000000000 t a)(k:Int)(_:1<=k)(_:k+lP t a<=1000000000000000),mark a k=some (k+lP t a,mk t a k)
def Xv (t:CT)(held:t.D->Int->au Int):Prop:=∀(a:t.D)(_:br 1000000000000 t a)(k:Int)(_:1<=k)(_:k+lP t a<=1000000000000000),held (mk t a k) k=some (k+lP t a)
theorem TS {T:((aq e.D×Int×Int×aq e.D)->au (Int×aq e.D))->(aq e.D×Int×Int×aq e.D)->au (Int×aq e.D)}(hs:∀(l:aq e.D)(i:Nat)(hi:i<l.length)(k:Int) nx,1<=k->k+lP e l[i]<=1000000000000000->l.length<=1000000000000->br 1000000000000 e l[i]-> T nx (l,k,(i:Int),l)=nx (l.set i (mk e l[i] k),k+lP e l[i],(i:Int)+1,l.set i (mk e l[i] k)))(hf:∀(l:aq e.D)(k:Int) nx,T nx (l,k,(l.length:Int),l)=some (k,l)):UR (.sl e) (λa k=>aI T fuel (a,k,0,a)):=by have xS:=cR;intro a h k h1 h2;have hl:a.length<=1000000000000:=h.1;exact R5 hs hf a [] k fuel h1 h2 (by simp;omega) h.2 (by omega)
theorem TR {H:aq e.D->((Int×Int)->au Int)->(Int×Int)->au Int}(gs:∀(l:aq e.D)(i:Nat)(hi:i<l.length)(x:e.D)(k:Int) nx,l[i]=mk e x k->1<=k->k+lP e x<=1000000000000000->l.length<=1000000000000->br 1000000000000 e x-> H l nx (k,(i:Int))=nx (k+lP e x,(i:Int)+1))(gf:∀(l:aq e.D)(k:Int) nx,H l nx (k,(l.length:Int))=some k):Xv (.sl e) (λa k=>aI (H a) fuel (k,0)):=by have xS:=cR;intro a h k h1 h2;have hl:a.length<=1000000000000:=h.1;exact RD gs gf a [] k fuel h1 h2 (by simp;omega) h.2 (by omega)
def MtM (t:CT)(mark:t.D->Int->au (Int×t.D)):Prop:=∀(a:t.D)(_:br 1000000000000 t a)(k:Int)(_:1<=k)(_:k+di t a<=1000000000000000),mark a k=some (k+di t a,Gv t a k)
def MtH (t:CT)(held:t.D->Int->au Int):Prop:=∀(a:t.D)(_:br 1000000000000 t a)(k:Int)(_:1<=k)(_:k+di t a<=1000000000000000),held (Gv t a k) k=some (k+di t a)
theorem UR.top {mark:aq e.D->Int->au (Int×aq e.D)}(h:UR (.sl e) mark):MtM (.sl e) mark:=h
theorem Xv.top {held:aq e.D->Int->au Int}(h:Xv (.sl e) held):MtH (.sl e) held:=h
def OkW:{t:CT}->XK FM t->Prop
 |_,.sl (e:=e) m=>UR (.sl e) m
 |_,.pair a b=>OkW a/\OkW b
 |_,_=>True
theorem Uf {R:Type}(hf:∀k,1<=k->k<=1000000000000000->f k=some (txt k)){l:aq α}{i:Nat}(hi:i<l.length):∀{t:CT}(n:XK FM t)(_:OkW n)(g:α->t.D)(s:α->t.D->α)(_:∀y v,g (s y v)=v)(_:∀y v w,s (s y v) w=s y w)(x:α)(k:Int)(K:aq α->Int->au R),1<=k->k+lP t (g x)<=1000000000000000->br 1000000000000 t (g x)->
 GM f (i:Int) n g s (l.set i x) (l.set i x) k K=K (l.set i (s x (mk t (g x) k))) (k+lP t (g x))
 |_,.int _,_,g,s,_,_,x,k,K,h1,h2,_=>by simp only[lZ]at h2⊢;rw[GM,oC x hi,ab,ab,ay,eo,aj (by omega) (by omega)];rfl
 |_,.bool,_,g,s,_,_,x,k,K,h1,h2,_=>by simp only[ju]at h2⊢;rw[GM,oC x hi,ab,ab,ay,eo,aj (by omega) (by omega)];rfl
 |_,.str,_,g,s,_,_,x,k,K,h1,h2,_=>by simp only[ma]at h2⊢;rw[GM,hf k h1 (by omega),ab,oC x hi,ab,ab,ay,eo,aj (by omega) (by omega)];rfl
 |_,.sl m,hn,g,s,_,_,x,k,K,h1,h2,h3=>by rw[GM,oC x hi,ab,ab,hn (g x) h3 k h1 h2,ab,ay,eo]
 |_,.pair (a:=ca) (b:=cb) a b,hn,g,s,l1,l2,x,k,K,h1,h2,h3=>by rw[jv]at h2⊢;have e1:=Uf (R:=R) hf hi a hn.1 (λy=>(g y).1) (λy v=>s y (v,(g y).2)) (λy v=>by simp only[l1]) (λy v w=>by simp only[l1,l2]) x k;rw[GM,e1 _ h1 (by show k+((lP ca (g x).1:Nat):Int)<=_;omega) h3.1];have e2:=Uf (R:=R) hf hi b hn.2 (λy=>(g y).2) (λy v=>s y ((g y).1,v)) (λy v=>by simp only[l1]) (λy v w=>by simp only[l1,l2]) (s x (mk ca (g x).1 k,(g x).2)) (k+lP ca (g x).1) K (by omega) (by simp only[l1];omega) (by simp only[l1];exact h3.2);rw[e2];simp only[l1,l2,DD];congr 1;omega
theorem KC (n:XK FM e){T:((aq e.D×Int×Int×aq e.D)->au (Int×aq e.D))->(aq e.D×Int×Int×aq e.D)->au (Int×aq e.D)}(hf:∀k,1<=k->k<=1000000000000000->f k=some (txt k))(hn:OkW n)(he:∀(l:aq e.D)(k i:Int) nx,T nx (l,k,i,l)=cond (decide (i<(l.length:Int))) (GM f i n (λy=>y) (λ_ v=>v) l l k (λL k'=>nx (L,k',ak (i+1),L))) (some (k,l))):UR (.sl e) (λa k=>aI T fuel (a,k,0,a)):=by
 refine TS (λl i hi k nx h1 h2 h3 hx=>?_) (λl k nx=>?_)
 ·have hl:l=l.set i l[i]:=(List.set_getElem_self hi).symm;rw[he,jF,af];conv=>lhs;rw[hl]
  rw[Uf hf hi n hn (λy=>y) (λ_ v=>v) (λ_ _=>rfl) (λ_ _ _=>rfl) l[i] k _ h1 h2 hx];rw[aj (by omega) (by omega)]
 rw[he,gr];rfl
def OkV:{t:CT}->XK FH t->Prop
 |_,.sl (e:=e) m=>Xv (.sl e) m
 |_,.pair a b=>OkV a/\OkV b
 |_,_=>True
theorem Ue {R:Type}(hf:∀k,1<=k->k<=1000000000000000->f k=some (txt k)){v:aq α}{i:Nat}(hi:i<v.length)(bad:Int->au R):∀{t:CT}(n:XK FH t)(_:OkV n)(g:α->t.D)(K:Int->au R)(x:t.D)(k:Int),1<=k->k+lP t x<=1000000000000000->br 1000000000000 t x->g v[i]=mk t x k->
 HA f (i:Int) v bad n g K k=K (k+lP t x)
 |_,.int _,_,g,K,x,k,h1,h2,_,h4=>by simp only[lZ]at h2⊢;have h5:g v[i]=k:=h4;rw[HA,aX hi,ab,h5,bne_self_eq_false,ae,aj (by omega) (by omega)];rfl
 |_,.bool,_,g,K,x,k,h1,h2,_,h4=>by simp only[ju]at h2⊢;have h5:g v[i]=(Int.tmod k 3==0):=h4;rw[HA,aX hi,ab,h5,fZ,ai,ae,aj (by omega) (by omega)];rfl
 |_,.str,_,g,K,x,k,h1,h2,_,h4=>by simp only[ma]at h2⊢;have h5:g v[i]=txt k:=h4;rw[HA,aX hi,ab,hf k h1 (by omega),ab,h5,fZ,ai,ae,aj (by omega) (by omega)];rfl
 |_,.sl m,hn,g,K,x,k,h1,h2,h3,h4=>by rw[HA,aX hi,ab,h4,hn x h3 k h1 h2,ab,gr,ae]
 |_,.pair a b,hn,g,K,x,k,h1,h2,h3,h4=>by rw[jv]at h2⊢;rw[DD]at h4;rw[HA,Ue hf hi bad a hn.1 _ _ x.1 k h1 (by omega) h3.1 (by simp only[h4]),Ue hf hi bad b hn.2 _ _ x.2 _ (by omega) (by omega) h3.2 (by simp only[h4])];congr 1;omega
theorem MH (n:XK FH e){H:aq e.D->((Int×Int)->au Int)->(Int×Int)->au Int}{bad:aq e.D->Int->Int->au Int}(hf:∀k,1<=k->k<=1000000000000000->f k=some (txt k))(hn:OkV n)(he:∀(l:aq e.D)(k i:Int) nx,H l nx (k,i)=cond (decide (i<(l.length:Int))) (HA f i l (bad l i) n (λy=>y) (λk'=>nx (k',ak (i+1))) k) (some k)):Xv (.sl e) (λa k=>aI (H a) fuel (k,0)):=by refine TR (λl i hi x k nx hm h1 h2 h3 hx=>?_) (λl k nx=>?_);rw[he,jF,af,Ue hf hi _ n hn _ _ x k h1 h2 hx hm,aj (by omega) (by omega)];rw[he,gr];rfl
theorem NA:∀{t:CT}{x:t.D},di t x<=lP t x
 | .int _,_=>by simp[di]
 | .bool,_=>by simp[di]
 | .str,_=>by simp[di]
 | .sl _,_=>aR _
 | .pair a b,x=>by simp only[di,lP];exact Nat.add_le_add NA NA
def Nd (n:Nat):CT->Nat
 | .sl e=>n*Nd n e
 | .pair a b=>Nd n a+Nd n b
 |_=>1
theorem kz {n:Nat}:∀{t:CT}{x:t.D},br n t x->lP t x<=Nd n t
 | .int _,_,_=>by simp[lP,Nd]
 | .bool,_,_=>by simp[lP,Nd]
 | .str,_,_=>by simp[lP,Nd]
 | .sl e,xs,h=>by
  have h1:∀l:aq e.D,(∀x∈l,br n e x)->(l.map (lP e)).sum<=l.length*Nd n e:=by intro l;induction l with|nil=>simp|cons y l ih=>intro hl;have:=kz (hl y (by simp));have:=ih (λx hx=>hl x (by simp[hx]));simp only[ed,List.sum_cons,bC,cn,dQ];omega
  simp only[lP,Nd];exact aE (h1 xs h.2) (bZ _ h.1)
 | .pair a b,x,h=>by simp only[lP,Nd];exact Nat.add_le_add (kz h.1) (kz h.2)
theorem S3 {n:Nat}:∀{xs:aq e.D},(∀x∈xs,br n e x)->lP (.sl e) xs<=xs.length*Nd n e
 |[],_=>by simp[lP]
 |y::l,h=>by have h1:=kz (h y (by simp));have h2:=S3 (xs:=l) (λx hx=>h x (by simp[hx]));simp only[lP,ed,List.sum_cons,bC,cn,dQ]at h2⊢;omega
structure Lk (h:Host):Prop where
 pl:h.2.2.2.2.1.length<=2
 w:h.2.2.1.2.2.1.length<=16
theorem Te (hb:fi h=true):Lk h:=by have hl:=nn (by grind[fi]:xj h=true);have ht:=F2 (t:=h.2.2.1) (by grind[fi]);exact⟨by omega,ht⟩
theorem Ot {a b:Host}{k:Nat}(f:Lk a)(h:lJ k a b):Lk b:=⟨by rw[h.pl];exact f.pl,by rw[h.tx];exact f.w⟩
theorem ad6 (f:Lk h):Lk (HL h):=by grind[HL,Ot,ta,F0]
theorem abp (f:Lk h):Lk (EY h):=by grind[EY,Ot,ta,Dd]
theorem abq (b:Int)(f:Lk h):Lk (xr h b).1:=by grind[xr,Ot,BR]
theorem Tf (f:Lk h):Lk (td h):=by unfold td;cases fi h with|false=>exact f|true=>refine⟨f.pl,?_⟩;simp only[af];generalize (if(h.2.2.1.2.2.1.length:Int)<ak ((kH h.2.1 h.1 0 h.2.2.1.1).2.2.1+(kH h.2.1 h.1 0 h.2.2.1.1).2.2.2) then(h.2.2.1.2.2.1.length:Int) else ak ((kH h.2.1 h.1 0 h.2.2.1.1).2.2.1+(kH h.2.1 h.1 0 h.2.2.1.1).2.2.2))=q;unfold lS;cases Qi ((kH h.2.1 h.1 0 h.2.2.1.1).1,h.2.2.1.2)&&dI q 0 (h.2.2.1.2.2.1.length:Int)with|false=>exact f.w|true=>show(h.2.2.1.2.2.1.drop q.toNat).length<=16;rw[bj];have:=f.w;omega
theorem ad4 {n:Nat}(z:br n cI h)(f:Lk h):lP cI h<=400*(n+1):=by
 have hw:h.2.2.1.2.2.1.length*Nd n kJ<=16*Nd n kJ:=bZ _ f.w;have hp:h.2.2.2.2.1.length*Nd n fY<=2*Nd n fY:=bZ _ f.pl;have s:lP cI h=lP (.sl .str) h.1+(lP (.sl dj) h.2.1+((4+(lP fY h.2.2.1.2.1+(lP (.sl kJ) h.2.2.1.2.2.1+1)))+(lP (.sl cX) h.2.2.2.1+(lP (.sl fY) h.2.2.2.2.1+(lP (.sl fy) h.2.2.2.2.2.1+(lP (.sl .bool) h.2.2.2.2.2.2.1+(lP jH h.2.2.2.2.2.2.2.1+(lP fS h.2.2.2.2.2.2.2.2.1+(lP (.sl dF) h.2.2.2.2.2.2.2.2.2.1+(1+(lP (.sl .str) h.2.2.2.2.2.2.2.2.2.2.2.1+(lP (.sl (.int .i64)) h.2.2.2.2.2.2.2.2.2.2.2.2.1+(lP (.sl (.int .i64)) h.2.2.2.2.2.2.2.2.2.2.2.2.2.1+5))))))))))))):=by kernel_rfl
 have e1:lP (.sl .str) h.1<=n*1:=aE (kz z.1) (fD (by kernel_rfl));have e2:lP (.sl dj) h.2.1<=n*4:=aE (kz z.2.1) (fD (by kernel_rfl));have e3:=aE (S3 z.2.2.1.2.2.1.2) hw;have e4:lP (.sl cX) h.2.2.2.1<=n*30:=aE (kz z.2.2.2.1) (fD (by kernel_rfl));have e5:=aE (S3 z.2.2.2.2.1.2) hp;have e6:lP (.sl fy) h.2.2.2.2.2.1<=n*6:=aE (kz z.2.2.2.2.2.1) (fD (by kernel_rfl));have e7:lP (.sl .bool) h.2.2.2.2.2.2.1<=n*1:=aE (kz z.2.2.2.2.2.2.1) (fD (by kernel_rfl));have e8:lP jH h.2.2.2.2.2.2.2.1<=1+(1+n*1):=aE (kz z.2.2.2.2.2.2.2.1) (fD (by kernel_rfl));have e9:lP fS h.2.2.2.2.2.2.2.2.1<=Nd n fS:=kz z.2.2.2.2.2.2.2.2.1;have e10:lP (.sl dF) h.2.2.2.2.2.2.2.2.2.1<=n*8:=aE (kz z.2.2.2.2.2.2.2.2.2.1) (fD (by kernel_rfl));have e11:lP (.sl .str) h.2.2.2.2.2.2.2.2.2.2.2.1<=n*1:=aE (kz z.2.2.2.2.2.2.2.2.2.2.2.1) (fD (by kernel_rfl));have e12:lP (.sl (.int .i64)) h.2.2.2.2.2.2.2.2.2.2.2.2.1<=n*1:=aE (kz z.2.2.2.2.2.2.2.2.2.2.2.2.1) (fD (by kernel_rfl));have e13:lP (.sl (.int .i64)) h.2.2.2.2.2.2.2.2.2.2.2.2.2.1<=n*1:=aE (kz z.2.2.2.2.2.2.2.2.2.2.2.2.2.1) (fD (by kernel_rfl));have e14:lP fY h.2.2.1.2.1<=1+(1+(1+n*1)):=aE (kz z.2.2.1.2.1) (fD (by kernel_rfl));have q1:Nd n kJ=1+(1+n*1):=by kernel_rfl
 have q2:Nd n fY=1+(1+(1+n*1)):=by kernel_rfl
 have q3:Nd n fS=n*9+(n*7+(1+n*1)):=by kernel_rfl
 rw[s];omega
theorem agx {n:Nat}(z:br n cI h)(f:Lk h):di cI h<=400*(n+1):=aE NA (ad4 z f)
def aga (a:Act):au Bool:=
 aa (aa (some (dI a.1 0 6)) λr1=>cond (!r1) (some true) (some (decide ((a.2.2.2.2.1.length:Int)>600)))) λq2=>
 cond q2 (some false) (
 aa (cond (a.1 !=0) (cond (!((a.2.1.1==0)&&((a.2.1.2.1==0)&&((a.2.1.2.2.1==0)&&((a.2.1.2.2.2.1==0)&&((a.2.1.2.2.2.2.1==0)&&((a.2.1.2.2.2.2.2.1==0)&&((a.2.1.2.2.2.2.2.2.1==0)&&((a.2.1.2.2.2.2.2.2.2.1==0)&&((a.2.1.2.2.2.2.2.2.2.2.1==0)&&((a.2.1.2.2.2.2.2.2.2.2.2.1==0)&&((a.2.1.2.2.2.2.2.2.2.2.2.2.1==0)&&((a.2.1.2.2.2.2.2.2.2.2.2.2.2.1==0)&&((a.2.1.2.2.2.2.2.2.2.2.2.2.2.2.1==0)&&((a.2.1.2.2.2.2.2.2.2.2.2.2.2.2.2.1==0)&&((a.2.1.2.2.2.2.2.2.2.2.2.2.2.2.2.2.1==0)&&((a.2.1.2.2.2.2.2.2.2.2.2.2.2.2.2.2.2==([]:Bytes))&&true))))))))))))))))) (some true) (cond (a.2.2.1 !=0) (some true) (some (a.2.2.2.1 !=0)))) (some false)) λq3=>
 cond q3 (some false) (
 aa (cond (a.1==2) (cond (a.1==5) (some true) (some (a.2.2.2.2.2==0))) (cond (a.2.2.2.2.1==([]:Bytes)) (cond (a.1==5) (some true) (some (a.2.2.2.2.2==0))) (some false))) λq4=>some q4))
theorem aa5 (a:Act):∃b,aga a=some b:=by simp_all[aga,cw]
def US (a:Act):Bool:=(aga a).getD false
theorem Z7 (a:Act):aga a=some (US a):=by obtain⟨b,hb⟩:=aa5 a;simp[US,hb]
theorem ahb (a:Act):FQ a=some (US a):=by rw[<-Z7];unfold FQ;rw[cO];rfl
theorem agH (a:Act):E9 a=some (US a):=by rw[<-Z7];unfold E9;rw[dh];rfl
theorem Ar.tx {n:Nat}(k:Ar n h)(hn:n<=10^9):XM h.2.2.1:=
 have z:br 1000000000 cI h:=k.z.mono hn
 ⟨z.2.2.1.2.1.2.2.2.1,z.2.2.1.2.2.1.1,λx hx=>(z.2.2.1.2.2.1.2 x hx).2.2.1⟩
def GA (h:Host)(p:aU)(c z:Int):Host×Bool:=
 bif fi h then(((D2 h.2.1 h.1 0 h.2.2.1 p c z).1,h.2.1,(D2 h.2.1 h.1 0 h.2.2.1 p c z).2.1,h.2.2.2),(D2 h.2.1 h.1 0 h.2.2.1 p c z).2.2) else(h,false)
theorem abU (h:Host)(p:aU)(c z:Int)(k:Ar 900000000 h):yM h p c z=some (GA h p c z):=by have zz:br 1000000000 cI h:=k.z.mono;unfold yM GA;rw[jh h zz,ab,wg h (k.sz),ab];cases fi h;rfl;simp only[ai,ae,af,abV _ _ _ _ _ _ _ zz.2.1.1 zz.1.1 (k.tx (by omega)) zz.2.2.1.2.2.1.1 (aE k.t (by omega)),ab]
theorem ac4 (h:Host)(p:aU)(c z:Int)(k:Ar 900000000 h):zy h p c z=some (GA h p c z):=by have zz:br 1000000000 cI h:=k.z.mono;unfold zy GA;rw[jm h zz,ab,rA h (k.sz),ab];cases fi h;rfl;simp only[ai,ae,af,ac5 _ _ _ _ _ _ _ zz.2.1.1 zz.1.1 (k.tx (by omega)) zz.2.2.1.2.2.1.1 (aE k.t (by omega)),ab]
theorem Rv {n:Nat}(hn:128<=n)(l:aq aA)(d:Int)(p:cj)(z:Nat):∀(q:ew)(s:Bytes)(m:bt)(a:aq eZ){x},br n (.sl .str) m->AP l d p z q s m a=some x->br n (.sl .str) x.2
 |[],s,m,a,x,hm,h=>by cases h;exact hm
 |b::q,s,m,a,x,hm,h=>by rw[AP]at h;cases hq:(mP l m d (lK p b) (s.take z) false).2 with|false=>grind|true=>rw[hq]at h;exact Rv hn l d p z q _ _ _ (Hx hn hm ..) h
theorem MP {n:Nat}(hn:128<=n)(l:aq aA)(d:Int):∀(q:bt)(m:bt)(r:kW){x},br n (.sl .str) m->Bp l d q m r=some x->br n (.sl .str) x.1
 |[],m,r,x,hm,h=>by cases h;exact hm
 |s::q,m,r,x,hm,h=>by rw[Bp]at h;cases hq:(dA l m d r s).2.2 with|false=>grind|true=>rw[hq]at h;exact MP hn l d q _ _ (KK hn hm ..) h
theorem Wt {n:Nat}(hn:128<=n){d:Int}{q:bt}{m:bt}{r:kW}(hm:br n (.sl .str) m):br n (.sl .str) (xn l m d r q).1:=by unfold xn;cases hx:Bp l d q m r with|none=>exact hm|some x=>exact MP hn l d q m r hm hx
theorem adp (p:cj)(n:Int):(kO p n).1.2.2.2.length+(kO p n).2.1.length=p.2.2.2.length:=by grind[kO]
theorem abb (a:aq gH)(x:gH):(ch (a++[x])).length=(ch a).length+x.2.2.length:=by simp[ch]
theorem WK:∀l:aq gH,(∀x∈l,1<=x.2.1)->(l.length:Int)<=ef l
 |[],_=>by simp[ef]
 |y::l,h=>by have h1:=WK l (λx hx=>h x (ee _ hx));grind[ef]
structure ahD (n:Nat) (m:List Bytes) (t:bA) (r:List Bytes×bA×Bool):Prop where
 mem:br n (.sl .str) r.1
 tx:br (n+1) fE r.2.1
 sum:r.2.1.2.1.2.2.2.length+(ch r.2.1.2.2.1).length<=n
 w:r.2.1.2.2.1.length<=16\/r.2.1.2.2.1=t.2.2.1
theorem Sp {n:Nat}(hn:128<=n){m:bt}{t:bA}{p:aU}{c z:Int}(d:Int)(hm:br n (.sl .str) m)(ht:br n fE t)(hs:t.2.1.2.2.2.length+(ch t.2.2.1).length<=n):ahD n m t (D2 l m d t p c z):=by
 have Zj:ahD n m t (m,t,false):=⟨hm,ht.mono,hs,Or.inr rfl⟩
 unfold D2;cases hg:Qi t&&(eu p&&(dI z 1 t.2.1.2.1&&dI c 1 128));exact Zj;simp only[ah]at hg;simp only[af];generalize qO p z.toNat=k;cases hk:Vm t k;exact Zj;simp only[af];rcases hx:AP l d t.2.1 z.toNat (kO t.2.1 (k:Int)).2.1 (iR p).1 m []with _|x;exact Zj;simp only;unfold aaM;have hpm:=Wt (n:=n) hn (l:=l) (d:=d) (q:=(ou x.1 c t.2.2.2).map AZ) (r:=t.1) (Rv hn l d t.2.1 z.toNat _ _ _ _ hm hx);generalize xn l x.2 d t.1 ((ou x.1 c t.2.2.2).map AZ)=w at hpm⊢;cases w.2.2;exact Zj;have hl:=adp t.2.1 (k:Int);have hb:=abb t.2.2.1 (t.2.2.2,(k:Int)+1,(kO t.2.1 (k:Int)).2.1);have hb:(ch (t.2.2.1++[(t.2.2.2,(k:Int)+1,(kO t.2.1 (k:Int)).2.1)])).length=(ch t.2.2.1).length+(kO t.2.1 (k:Int)).2.1.length:=hb;refine⟨hpm,⟨⟨bN,bN,bN,bN⟩,⟨bN,bN,bN,?_,λ_ _=>trivial⟩,?_,bN⟩,?_,Or.inl ?_⟩;show(kO t.2.1 (k:Int)).1.2.2.2.length<=n+1;omega;exact LO (t:=kJ) (k:=1) ht.2.2.1 (λy hy=>by rw[eL.1 hy];exact⟨bN,bN,by show(kO t.2.1 (k:Int)).2.1.length<=n;omega,λ_ _=>trivial⟩) (by simp);show(kO t.2.1 (k:Int)).1.2.2.2.length+(ch (t.2.2.1++[(t.2.2.2,(k:Int)+1,(kO t.2.1 (k:Int)).2.1)])).length<=n;omega;show(t.2.2.1++[_]).length<=16;have hq:=hg.1;simp only[Qi,ah]at hq;have VI:=qy hq.1;have hc:=WK t.2.2.1 (λx hx=>by have:=aW.1 hq.2.2.2.1 x hx;simp only[jP,ah,bO]at this;omega);unfold Vm at hk;simp only[ah,aP,dm]at hk;rw[aw,bf];omega
theorem afC {n:Nat}(hn:1000<=n)(p:aU)(c z:Int)(k:Ar n h):Ar (n+1) (GA h p c z).1:=by unfold GA;cases fi h;exact k.mono;have zz:=k.z;have s:=Sp (by omega) (l:=h.2.1) (p:=p) (c:=c) (z:=z) 0 zz.1 zz.2.2.1 k.t;have z1:br (n+1) cI h:=zz.mono;exact⟨⟨s.mem.mono,z1.2.1,s.tx,z1.2.2.2⟩,aE s.sum (by omega)⟩
theorem ad5 {n:Nat}(hn:1000<=n)(p:aU)(c z:Int)(k:Ar n h)(f:Lk h):Lk (GA h p c z).1:=by unfold GA;cases fi h;exact f;have s:=Sp (by omega) (l:=h.2.1) (p:=p) (c:=c) (z:=z) 0 k.z.1 k.z.2.2.1 k.t;refine⟨f.pl,?_⟩;rcases s.w with w|w;exact w;show(D2 h.2.1 h.1 0 h.2.2.1 p c z).2.1.2.2.1.length<=16;rw[w];exact f.w
theorem Vi {n:Nat}(hn:1000<=n)(x:Bytes)(k:Ar n h)(f:Lk h):Lk (ue h x):=by have:=MQ hn x k;exact⟨by rw[this.2.2];exact f.pl,by rw[this.2.1];exact f.w⟩
theorem MR (h:Host):∀k,(eT h k).2.2.1=h.2.2.1
 |0=>rfl
 |k+1=>by show(CO k (eT h k)).2.2.1=_;rw[<-MR h k];grind[CO]
theorem acQ {n:Nat}(hn:1000<=n)(k:Ar n h)(f:Lk h):Ar (n+645000) (Hy h)/\Lk (Hy h):=by
 unfold Hy;cases hb:fi h;exact⟨k.mono,f⟩;have hl:=nn (Jw hb);have e:=GX hn k.z hl.1;have hw:=f.w;have hp:=CM (n:=n) (by omega) k.z h.2.2.2.1.length;have ht:=(vM (n:=n+322000*h.2.2.2.1.length) (h:=h) hp.2 h.2.2.1.2.2.1.length).1.e;have h4:=xk 256 128 8;simp only[af];have hx:=MR (rR h) h.2.2.2.1.length;have hk:=(uf (rR h) h.2.2.2.1.length).pl;have C3:(rR h).2.2.2.2.1.length=h.2.2.2.2.1.length:=by show(returned h h.2.2.1.2.2.1.length).2.2.2.2.1.length=_;rw[ht];exact hp.1.pl
 refine⟨⟨(Bq (by omega) e _).mono,?_⟩,?_,?_⟩;rw[hx];show(ln 256 128 8).1.2.2.2.length+0<=_;omega;rw[hk,C3];exact f.pl;rw[hx];show 0<=16;omega
def ad7 (f:gi):aq Stream->Int->Int
 |[],_=> -1
 |s::r,i=>if s.1=f then i else ad7 f r (i+1)
def adD (a b:aq Stream)(f:gi):Bool:=
 match idx a (ad7 f a 0),idx b (ad7 f b 0)with
 |some x,some y=>decide (x=y)
 |_,_=>false
def aqU (b:Bool):Int:=bif b then 1 else 0
def Nc (h:Host)(a:Act):Host×Int:=
 bif !fi h|| !US a then(h, -1) else
 bif a.1==0 then((GA h a.2.1 a.2.2.1 a.2.2.2.1).1,aqU (GA h a.2.1 a.2.2.1 a.2.2.2.1).2) else
 bif a.1==1 then(td h,0) else
 bif a.1==2 then(ue h a.2.2.2.2.1,0) else
 bif a.1==3 then(EY h,0) else
 bif a.1==4 then(HL h,0) else
 bif a.1==5 then xr h a.2.2.2.2.2 else(Hy h,0)
theorem abK (h:Host)(a:Act)(k:Ar 90000000 h)(hx:a.2.2.2.2.1.length<=10^9):Fb h a=some (Nc h a):=by
 have z:br 1000000000 cI h:=k.z.mono;unfold Fb Nc;rw[wg h (k.sz),ab,agH,ab];cases fi h;simp only[cf,af,jU,ab,jh h z];cases US a;simp only[ai,cf,af,ae,Bool.or_true,ab,jh h z];simp only[ai,ae,bM,ab,abU h _ _ _ (k.mono),TJ h (k.mono),TH h _ (k.mono) hx,YE h (k.mono),aeT h (k.sz (by omega)) z,V1 h _ (k.mono),QM h (k.sz (by omega)) (k.z.mono)];cases a.1==0;case true=>(simp only[af];cases (GA h a.2.1 a.2.2.1 a.2.2.2.1).2<;>rfl)
 cases a.1==1;all_goals grind
theorem acW (h:Host)(a:Act)(k:Ar 90000000 h)(hx:a.2.2.2.2.1.length<=10^9):FU h a=some (Nc h a):=by
 have z:br 1000000000 cI h:=k.z.mono;unfold FU Nc;rw[rA h (k.sz),ab,ahb,ab];cases fi h;simp only[cf,af,jU,ab,jm h z];cases US a;simp only[ai,cf,af,ae,Bool.or_true,ab,jm h z];simp only[ai,ae,bM,ab,ac4 h _ _ _ (k.mono),Ur h (k.mono),Up h _ (k.mono) hx,ZD h (k.mono),afQ h (k.sz (by omega)) z,W2 h _ (k.mono),Q3 h (k.sz (by omega)) (k.z.mono)];cases a.1==0;case true=>(simp only[af];cases (GA h a.2.1 a.2.2.1 a.2.2.2.1).2<;>rfl)
 cases a.1==1;all_goals grind
theorem agb {n:Nat}(hn:1000<=n)(a:Act)(k:Ar n h)(f:fi h=true\/Lk h):Ar (n+645000) (Nc h a).1/\(fi h=true\/Lk h->Lk (Nc h a).1\/(Nc h a).1=h):=by
 have f:Lk h:=f.elim Te id;unfold Nc;cases !fi h|| !US a;case true=>exact⟨k.mono,λ_=>Or.inr rfl⟩
 simp only[ae];cases a.1==0;case true=>exact⟨(afC hn _ _ _ k).mono,λ_=>Or.inl (ad5 hn _ _ _ k f)⟩
 cases a.1==1;case true=>exact⟨(UD (by omega) k).mono,λ_=>Or.inl (Tf f)⟩
 cases a.1==2;case true=>exact⟨(MQ hn _ k).1.mono,λ_=>Or.inl (Vi hn _ k f)⟩
 cases a.1==3;case true=>exact⟨(abt hn k).mono,λ_=>Or.inl (abp f)⟩
 cases a.1==4;case true=>exact⟨(af4 hn k).mono,λ_=>Or.inl (ad6 f)⟩
 cases a.1==5 with|true=>exact⟨(WM hn _ k).mono,λ_=>Or.inl (abq _ f)⟩|false=>grind[acQ]
theorem adC {n:Nat}(hn:1000<=n)(a:Act)(k:Ar n h)(f:Lk h):Ar (n+645000) (Nc h a).1/\Lk (Nc h a).1:=by grind[agb]
def ahT (s:Host×ew)(a:Act):Host×ew:=((Nc s.1 a).1,s.2++[(Nc s.1 a).2])
def L9 (h:Host)(l:aq Act):Host×ew:=l.foldl ahT (h,[])
theorem Ma (h:Host)(l:aq Act)(i:Nat)(hi:i<l.length):L9 h (l.take (i+1))=ahT (L9 h (l.take i)) l[i]:=by rw[bg hi,L9,List.foldl_append];rfl
theorem KN {n:Nat}(hn:1000<=n)(k:Ar n h)(f:Lk h)(l:aq Act):∀i,i<=l.length->Ar (n+645000*i) (L9 h (l.take i)).1/\Lk (L9 h (l.take i)).1/\(L9 h (l.take i)).2.length=i
 |0,_=>⟨k,f,rfl⟩
 |i+1,hi=>by have g:=KN hn k f l i (by omega);have e:=adC (by omega) (l[i]'(by omega)) g.1 g.2.1;rw[Ma h l i (by omega)];refine⟨e.1.mono,e.2,?_⟩;show(_++[_]).length=_;grind
def nS (h:Host)(l:aq Act):Host×ew:=bif !fi h||decide ((l.length:Int)>40) then(h,[]) else L9 h l
theorem VZ (h:Host)(l:aq Act)(k:Ar 50000000 h)(hx:∀a∈l,a.2.2.2.2.1.length<=10^9):wD h l=some (nS h l):=by
 have xS:=cR;unfold wD nS;rw[jh h (k.z.mono),ab,wg h (k.sz),ab];cases hb:fi h;rfl;cases hl:decide ((l.length:Int)>40);case true=>rfl
 rw[dm]at hl;simp only[ai,ae,ab,bM];refine cC (λi=>((L9 h (l.take i)).2,(i:Int),(L9 h (l.take i)).1)) l.length (by omega) (λi nx hi=>?_) (λnx=>?_);have g:=KN (by omega) k (Te hb) l i (by omega);rw[Ma h l i hi];generalize L9 h (l.take i)=s at g⊢;simp only[uC];rw[jF,af,aX hi,ab,abK _ _ (g.1.mono) (hx _ (bc hi)),ab,aQ (by rw[g.2.2,bf];omega),aj (by omega) (by omega)];rfl;simp only[uC];rw[gr,ae,cD]
theorem W1 (h:Host)(l:aq Act)(k:Ar 50000000 h)(hx:∀a∈l,a.2.2.2.2.1.length<=10^9):Bx h l=some (nS h l):=by
 have xS:=cR;unfold Bx nS;rw[jm h (k.z.mono),ab,rA h (k.sz),ab];cases hb:fi h;rfl;cases hl:decide ((l.length:Int)>40);case true=>rfl
 rw[dm]at hl;simp only[ai,ae,ab,bM];refine cC (λi=>((L9 h (l.take i)).2,(i:Int),(L9 h (l.take i)).1)) l.length (by omega) (λi nx hi=>?_) (λnx=>?_);have g:=KN (by omega) k (Te hb) l i (by omega);rw[Ma h l i hi];generalize L9 h (l.take i)=s at g⊢;simp only[uY];rw[jF,af,aX hi,ab,acW _ _ (g.1.mono) (hx _ (bc hi)),ab,aQ (by rw[g.2.2,bf];omega),aj (by omega) (by omega)];rfl;simp only[uY];rw[gr,ae,cD]
theorem WG {n:Nat}(hn:1000<=n)(k:Ar n h)(l:aq Act):Ar (n+25800000) (nS h l).1/\(nS h l).2.length<=40/\((nS h l).1=h\/Lk (nS h l).1):=by
 unfold nS;cases hb:fi h;exact⟨k.mono,dR _,Or.inl rfl⟩;cases hl:decide ((l.length:Int)>40);case true=>exact⟨k.mono,dR _,Or.inl rfl⟩
 rw[dm]at hl;have g:=KN hn k (Te hb) l l.length (aR _);rw[cD]at g;exact⟨g.1.mono,by grind,Or.inr g.2.1⟩
end
end Go.Pu
section
namespace Go.Pu
open Go.Dn
set_option linter.unusedVariables false
set_option linter.unusedSimpArgs false
set_option maxRecDepth 100000
set_option maxHeartbeats 4000000
theorem DC:UR (.sl (.int .i64)) gz:=by
 refine TS (e:=(.int .i64)) (T:=nM (λ_ y _ z=>some (y,z))) (λl i hi k nx h1 h2 h3 hx=>?_) (λl k nx=>?_)
 ·try simp only[jv,lZ,ju,ma,bz,cP,<-bV]at h2
  simp only[nM];rw[jF];simp (disch:=omega) only[af,aX hi,ab,oC,aH,eo,ay,aj,aF,ne3,ly];try simp only[DD,LR,Ib,LU,jv,lZ,ju,ma,bz,cP,<-bV]
 simp only[nM];rw[gr];rfl
theorem JE:UR (.sl .str) sA:=by
 refine TS (e:=.str) (T:=km (λ_ y _ z=>some (y,z))) (λl i hi k nx h1 h2 h3 hx=>?_) (λl k nx=>?_)
 ·try simp only[jv,lZ,ju,ma,bz,cP,<-bV]at h2
  simp only[km];rw[jF];simp (disch:=omega) only[af,aX hi,ab,oC,aH,eo,ay,aj,aF,ne3,ly];try simp only[DD,LR,Ib,LU,jv,lZ,ju,ma,bz,cP,<-bV]
 simp only[km];rw[gr];rfl
theorem R8:MtM (.sl .str) uP:=by intro a h k h1 h2;simp (disch:=omega) only[uP,ab,JE.top a h]
theorem Wd:UR (.sl dj) wX:=KC (e:=dj) (T:=rl (λ_ y _ z=>some (y,z))) (f:=cA) (.pair (.int _) (.pair (.int _) (.pair (.int _) .bool))) ly ⟨bN,⟨bN,⟨bN,bN⟩⟩⟩ (λl k i nx=>by kernel_rfl)
theorem Nz (a:cj):di fY a=0+(0+(0+(di (.sl (.int .i64)) a.2.2.2))):=rfl
theorem aaD (a:cj)(k:Int):Gv fY a k=(a.1,a.2.1,a.2.2.1,Gv (.sl (.int .i64)) a.2.2.2 (k)):=by simp only[pA,uS,pz,uT,lR,pe,lQ,pg,bz,dL,fC,<-bV]
theorem agX:MtM fY za:=by intro a h k h1 h2;rw[Nz]at h2;simp (disch:=omega) only[za,ab,DC.top _ h.2.2.2];rw[aaD,Nz];refine congrArg some (Prod.ext (by simp only;omega) ?_);first|rfl|simp only[pA,uS,pz,uT,lR,pe,lQ,pg,bz,dL,fC,<-bV]
theorem afc:UR (.sl kJ) Cy:=KC (e:=kJ) (T:=xb (λ_ y _ z=>some (y,z))) (f:=cA) (.pair (.int _) (.pair (.int _) (.sl (e:=(.int .i64)) gz))) ly ⟨bN,⟨bN,DC⟩⟩ (λl k i nx=>by kernel_rfl)
theorem ES (a:bA):di fE a=(0+(0+(0+0)))+(di fY a.2.1+(di (.sl kJ) a.2.2.1+(0))):=rfl
theorem Pf (a:bA)(k:Int):Gv fE a k=(a.1,Gv fY a.2.1 (k),Gv (.sl kJ) a.2.2.1 (k+((di fY a.2.1:Nat):Int)),a.2.2.2):=by simp only[pA,uS,pz,uT,lR,pe,lQ,pg,bz,dL,fC,<-bV]
theorem Ze:MtM fE sC:=by intro a h k h1 h2;rw[ES]at h2;simp (disch:=omega) only[sC,ab,agX _ h.2.1,afc.top _ h.2.2.1];rw[Pf,ES];refine congrArg some (Prod.ext (by simp only;omega) ?_);first|rfl|simp only[pA,uS,pz,uT,lR,pe,lQ,pg,bz,dL,fC,<-bV]
theorem We:UR (.sl cX) xa:=KC (e:=cX) (T:=rm (λ_ y _ z=>some (y,z))) (f:=cA) (.pair (.pair (.int _) (.pair (.int _) (.pair (.int _) (.int _)))) (.pair (.pair (.int _) (.pair (.int _) (.int _))) (.pair (.pair (.int _) (.pair (.int _) (.int _))) (.pair (.pair (.pair (.int _) (.pair (.int _) (.pair (.int _) (.pair (.int _) (.pair (.int _) (.pair (.int _) (.pair (.int _) (.pair (.int _) (.pair (.int _) (.pair (.int _) (.pair (.int _) (.pair (.int _) (.pair (.int _) (.pair (.int _) (.pair (.int _) .str))))))))))))))) (.pair (.int _) (.int _))) (.pair .bool (.int _)))))) ly ⟨⟨bN,⟨bN,⟨bN,bN⟩⟩⟩,⟨⟨bN,⟨bN,bN⟩⟩,⟨⟨bN,⟨bN,bN⟩⟩,⟨⟨⟨bN,⟨bN,⟨bN,⟨bN,⟨bN,⟨bN,⟨bN,⟨bN,⟨bN,⟨bN,⟨bN,⟨bN,⟨bN,⟨bN,⟨bN,bN⟩⟩⟩⟩⟩⟩⟩⟩⟩⟩⟩⟩⟩⟩⟩,⟨bN,bN⟩⟩,⟨bN,bN⟩⟩⟩⟩⟩ (λl k i nx=>by kernel_rfl)
theorem afa:UR (.sl fY) Cw:=KC (e:=fY) (T:=wY (λ_ y _ z=>some (y,z))) (f:=cA) (.pair (.int _) (.pair (.int _) (.pair (.int _) (.sl (e:=(.int .i64)) gz)))) ly ⟨bN,⟨bN,⟨bN,DC⟩⟩⟩ (λl k i nx=>by kernel_rfl)
theorem Y8:UR (.sl fy) yn:=KC (e:=fy) (T:=tt (λ_ y _ z=>some (y,z))) (f:=cA) (.pair (.int _) (.pair (.int _) (.pair (.int _) (.pair (.int _) (.pair .bool .bool))))) ly ⟨bN,⟨bN,⟨bN,⟨bN,⟨bN,bN⟩⟩⟩⟩⟩ (λl k i nx=>by kernel_rfl)
theorem ae9:UR (.sl .bool) Ct:=by
 refine TS (e:=.bool) (T:=mq (λ_ y _ z=>some (y,z))) (λl i hi k nx h1 h2 h3 hx=>?_) (λl k nx=>?_)
 ·try simp only[jv,lZ,ju,ma,bz,cP,<-bV]at h2
  simp only[mq];rw[jF];simp (disch:=omega) only[af,aX hi,ab,oC,aH,eo,ay,aj,aF,ne3,ly];try simp only[DD,LR,Ib,LU,jv,lZ,ju,ma,bz,cP,<-bV]
 simp only[mq];rw[gr];rfl
theorem HS (a:Filter):di jH a=0+(0+(di (.sl (.int .i64)) a.2.2)):=rfl
theorem R6 (a:Filter)(k:Int):Gv jH a k=(a.1,a.2.1,Gv (.sl (.int .i64)) a.2.2 (k)):=by simp only[pA,uS,pz,uT,lR,pe,lQ,pg,bz,dL,fC,<-bV]
theorem aco:MtM jH uO:=by intro a h k h1 h2;rw[HS]at h2;simp (disch:=omega) only[uO,ab,DC.top _ h.2.2];rw[R6,HS];refine congrArg some (Prod.ext (by simp only;omega) ?_);first|rfl|simp only[pA,uS,pz,uT,lR,pe,lQ,pg,bz,dL,fC,<-bV]
theorem afb:UR (.sl qg) Cx:=KC (e:=qg) (T:=wZ (λ_ y _ z=>some (y,z))) (f:=cA) (.pair (.int _) (.pair (.int _) (.pair (.int _) (.pair (.int _) (.pair (.int _) (.pair (.int _) (.pair (.int _) (.pair (.int _) (.int _))))))))) ly ⟨bN,⟨bN,⟨bN,⟨bN,⟨bN,⟨bN,⟨bN,⟨bN,bN⟩⟩⟩⟩⟩⟩⟩⟩ (λl k i nx=>by kernel_rfl)
theorem afd:UR (.sl kY) CA:=KC (e:=kY) (T:=xc (λ_ y _ z=>some (y,z))) (f:=cA) (.pair (.int _) (.pair (.pair (.int _) (.pair (.int _) (.pair (.int _) (.pair (.int _) (.int _))))) (.int _))) ly ⟨bN,⟨⟨bN,⟨bN,⟨bN,⟨bN,bN⟩⟩⟩⟩,bN⟩⟩ (λl k i nx=>by kernel_rfl)
theorem TW:MtM (.sl kY) oO:=by intro a h k h1 h2;simp (disch:=omega) only[oO,ab,afd.top a h]
theorem HT (a:gN):di uu a=0+(di (.sl (.int .i64)) a.2):=rfl
theorem R7 (a:gN)(k:Int):Gv uu a k=(a.1,Gv (.sl (.int .i64)) a.2 (k)):=by simp only[pA,uS,pz,uT,lR,pe,lQ,pg,bz,dL,fC,<-bV]
theorem acp:MtM uu uQ:=by intro a h k h1 h2;rw[HT]at h2;simp (disch:=omega) only[uQ,ab,DC.top _ h.2];rw[R7,HT];refine congrArg some (Prod.ext (by simp only;omega) ?_);first|rfl|simp only[pA,uS,pz,uT,lR,pe,lQ,pg,bz,dL,fC,<-bV]
theorem C7 (a:dY):di fS a=di (.sl qg) a.1+(di (.sl kY) a.2.1+(di uu a.2.2)):=rfl
theorem MG (a:dY)(k:Int):Gv fS a k=(Gv (.sl qg) a.1 (k),Gv (.sl kY) a.2.1 (k+((di (.sl qg) a.1:Nat):Int)),Gv uu a.2.2 (k+((di (.sl qg) a.1:Nat):Int)+((di (.sl kY) a.2.1:Nat):Int))):=by simp only[pA,uS,pz,uT,lR,pe,lQ,pg,bz,dL,fC,<-bV]
theorem Wm:MtM fS qw:=by intro a h k h1 h2;rw[C7]at h2;simp (disch:=omega) only[qw,ab,afb.top _ h.1,TW _ h.2.1,acp _ h.2.2];rw[MG,C7];refine congrArg some (Prod.ext (by simp only;omega) ?_);first|rfl|simp only[pA,uS,pz,uT,lR,pe,lQ,pg,bz,dL,fC,<-bV]
theorem Y7:UR (.sl dF) ym:=KC (e:=dF) (T:=tr (λ_ y _ z=>some (y,z))) (f:=cA) (.pair (.pair (.int _) (.pair (.int _) (.pair (.int _) (.pair (.int _) (.int _))))) (.pair (.int _) (.pair .str .bool))) ly ⟨⟨bN,⟨bN,⟨bN,⟨bN,bN⟩⟩⟩⟩,⟨bN,⟨bN,bN⟩⟩⟩ (λl k i nx=>by kernel_rfl)
theorem Ny (a:Host):di cI a=di (.sl .str) a.1+(di (.sl dj) a.2.1+(di fE a.2.2.1+(di (.sl cX) a.2.2.2.1+(di (.sl fY) a.2.2.2.2.1+(di (.sl fy) a.2.2.2.2.2.1+(di (.sl .bool) a.2.2.2.2.2.2.1+(di jH a.2.2.2.2.2.2.2.1+(di fS a.2.2.2.2.2.2.2.2.1+(di (.sl dF) a.2.2.2.2.2.2.2.2.2.1+(0+(di (.sl .str) a.2.2.2.2.2.2.2.2.2.2.2.1+(di (.sl (.int .i64)) a.2.2.2.2.2.2.2.2.2.2.2.2.1+(di (.sl (.int .i64)) a.2.2.2.2.2.2.2.2.2.2.2.2.2.1+((0+(0+(0+(0+0)))))))))))))))))):=rfl
theorem aaC (a:Host)(k:Int):Gv cI a k=(Gv (.sl .str) a.1 (k),Gv (.sl dj) a.2.1 (k+((di (.sl .str) a.1:Nat):Int)),Gv fE a.2.2.1 (k+((di (.sl .str) a.1:Nat):Int)+((di (.sl dj) a.2.1:Nat):Int)),Gv (.sl cX) a.2.2.2.1 (k+((di (.sl .str) a.1:Nat):Int)+((di (.sl dj) a.2.1:Nat):Int)+((di fE a.2.2.1:Nat):Int)),Gv (.sl fY) a.2.2.2.2.1 (k+((di (.sl .str) a.1:Nat):Int)+((di (.sl dj) a.2.1:Nat):Int)+((di fE a.2.2.1:Nat):Int)+((di (.sl cX) a.2.2.2.1:Nat):Int)),Gv (.sl fy) a.2.2.2.2.2.1 (k+((di (.sl .str) a.1:Nat):Int)+((di (.sl dj) a.2.1:Nat):Int)+((di fE a.2.2.1:Nat):Int)+((di (.sl cX) a.2.2.2.1:Nat):Int)+((di (.sl fY) a.2.2.2.2.1:Nat):Int)),Gv (.sl .bool) a.2.2.2.2.2.2.1 (k+((di (.sl .str) a.1:Nat):Int)+((di (.sl dj) a.2.1:Nat):Int)+((di fE a.2.2.1:Nat):Int)+((di (.sl cX) a.2.2.2.1:Nat):Int)+((di (.sl fY) a.2.2.2.2.1:Nat):Int)+((di (.sl fy) a.2.2.2.2.2.1:Nat):Int)),Gv jH a.2.2.2.2.2.2.2.1 (k+((di (.sl .str) a.1:Nat):Int)+((di (.sl dj) a.2.1:Nat):Int)+((di fE a.2.2.1:Nat):Int)+((di (.sl cX) a.2.2.2.1:Nat):Int)+((di (.sl fY) a.2.2.2.2.1:Nat):Int)+((di (.sl fy) a.2.2.2.2.2.1:Nat):Int)+((di (.sl .bool) a.2.2.2.2.2.2.1:Nat):Int)),Gv fS a.2.2.2.2.2.2.2.2.1 (k+((di (.sl .str) a.1:Nat):Int)+((di (.sl dj) a.2.1:Nat):Int)+((di fE a.2.2.1:Nat):Int)+((di (.sl cX) a.2.2.2.1:Nat):Int)+((di (.sl fY) a.2.2.2.2.1:Nat):Int)+((di (.sl fy) a.2.2.2.2.2.1:Nat):Int)+((di (.sl .bool) a.2.2.2.2.2.2.1:Nat):Int)+((di jH a.2.2.2.2.2.2.2.1:Nat):Int)),Gv (.sl dF) a.2.2.2.2.2.2.2.2.2.1 (k+((di (.sl .str) a.1:Nat):Int)+((di (.sl dj) a.2.1:Nat):Int)+((di fE a.2.2.1:Nat):Int)+((di (.sl cX) a.2.2.2.1:Nat):Int)+((di (.sl fY) a.2.2.2.2.1:Nat):Int)+((di (.sl fy) a.2.2.2.2.2.1:Nat):Int)+((di (.sl .bool) a.2.2.2.2.2.2.1:Nat):Int)+((di jH a.2.2.2.2.2.2.2.1:Nat):Int)+((di fS a.2.2.2.2.2.2.2.2.1:Nat):Int)),a.2.2.2.2.2.2.2.2.2.2.1,Gv (.sl .str) a.2.2.2.2.2.2.2.2.2.2.2.1 (k+((di (.sl .str) a.1:Nat):Int)+((di (.sl dj) a.2.1:Nat):Int)+((di fE a.2.2.1:Nat):Int)+((di (.sl cX) a.2.2.2.1:Nat):Int)+((di (.sl fY) a.2.2.2.2.1:Nat):Int)+((di (.sl fy) a.2.2.2.2.2.1:Nat):Int)+((di (.sl .bool) a.2.2.2.2.2.2.1:Nat):Int)+((di jH a.2.2.2.2.2.2.2.1:Nat):Int)+((di fS a.2.2.2.2.2.2.2.2.1:Nat):Int)+((di (.sl dF) a.2.2.2.2.2.2.2.2.2.1:Nat):Int)),Gv (.sl (.int .i64)) a.2.2.2.2.2.2.2.2.2.2.2.2.1 (k+((di (.sl .str) a.1:Nat):Int)+((di (.sl dj) a.2.1:Nat):Int)+((di fE a.2.2.1:Nat):Int)+((di (.sl cX) a.2.2.2.1:Nat):Int)+((di (.sl fY) a.2.2.2.2.1:Nat):Int)+((di (.sl fy) a.2.2.2.2.2.1:Nat):Int)+((di (.sl .bool) a.2.2.2.2.2.2.1:Nat):Int)+((di jH a.2.2.2.2.2.2.2.1:Nat):Int)+((di fS a.2.2.2.2.2.2.2.2.1:Nat):Int)+((di (.sl dF) a.2.2.2.2.2.2.2.2.2.1:Nat):Int)+((di (.sl .str) a.2.2.2.2.2.2.2.2.2.2.2.1:Nat):Int)),Gv (.sl (.int .i64)) a.2.2.2.2.2.2.2.2.2.2.2.2.2.1 (k+((di (.sl .str) a.1:Nat):Int)+((di (.sl dj) a.2.1:Nat):Int)+((di fE a.2.2.1:Nat):Int)+((di (.sl cX) a.2.2.2.1:Nat):Int)+((di (.sl fY) a.2.2.2.2.1:Nat):Int)+((di (.sl fy) a.2.2.2.2.2.1:Nat):Int)+((di (.sl .bool) a.2.2.2.2.2.2.1:Nat):Int)+((di jH a.2.2.2.2.2.2.2.1:Nat):Int)+((di fS a.2.2.2.2.2.2.2.2.1:Nat):Int)+((di (.sl dF) a.2.2.2.2.2.2.2.2.2.1:Nat):Int)+((di (.sl .str) a.2.2.2.2.2.2.2.2.2.2.2.1:Nat):Int)+((di (.sl (.int .i64)) a.2.2.2.2.2.2.2.2.2.2.2.2.1:Nat):Int)),a.2.2.2.2.2.2.2.2.2.2.2.2.2.2):=by simp only[pA,uS,pz,uT,lR,pe,lQ,pg,bz,dL,fC,<-bV]
theorem aaE:MtM cI tS:=by intro a h k h1 h2;rw[Ny]at h2;simp (disch:=omega) only[tS,ab,R8 _ h.1,JE.top _ h.1,Wd.top _ h.2.1,Ze _ h.2.2.1,We.top _ h.2.2.2.1,afa.top _ h.2.2.2.2.1,Y8.top _ h.2.2.2.2.2.1,ae9.top _ h.2.2.2.2.2.2.1,aco _ h.2.2.2.2.2.2.2.1,Wm _ h.2.2.2.2.2.2.2.2.1,Y7.top _ h.2.2.2.2.2.2.2.2.2.1,R8 _ h.2.2.2.2.2.2.2.2.2.2.2.1,JE.top _ h.2.2.2.2.2.2.2.2.2.2.2.1,DC.top _ h.2.2.2.2.2.2.2.2.2.2.2.2.1,DC.top _ h.2.2.2.2.2.2.2.2.2.2.2.2.2.1];rw[aaC,Ny];refine congrArg some (Prod.ext (by simp only;omega) ?_);first|rfl|simp only[pA,uS,pz,uT,lR,pe,lQ,pg,bz,dL,fC,<-bV]
theorem Dh:Xv (.sl (.int .i64)) fW:=by
 refine TR (e:=(.int .i64)) (H:=λv=>nL (λy _=>some y) (λ_ y _=>some y) v 0) (λl i hi x k nx hm h1 h2 h3 hx=>?_) (λl k nx=>?_)
 ·try simp only[jv,lZ,ju,ma,bz,cP,<-bV]at h2
  try simp only[DD,LR,Ib,LU,jv,lZ,ju,ma,bz,cP,<-bV]at hm
  simp only[nL];rw[jF];simp (disch:=omega) only[af,aX hi,hm,ab,bne_self_eq_false,fZ,ai,ae,aj,aF,ne3,rQ,ly];try simp only[jv,lZ,ju,ma,bz,cP,<-bV]
 simp only[nL];rw[gr];rfl
theorem Js:Xv (.sl .str) sv:=by
 refine TR (e:=.str) (H:=λv=>kl (λy _=>some y) (λ_ y _=>some y) v 0) (λl i hi x k nx hm h1 h2 h3 hx=>?_) (λl k nx=>?_)
 ·try simp only[jv,lZ,ju,ma,bz,cP,<-bV]at h2
  try simp only[DD,LR,Ib,LU,jv,lZ,ju,ma,bz,cP,<-bV]at hm
  simp only[kl];rw[jF];simp (disch:=omega) only[af,aX hi,hm,ab,bne_self_eq_false,fZ,ai,ae,aj,aF,ne3,rQ,ly];try simp only[jv,lZ,ju,ma,bz,cP,<-bV]
 simp only[kl];rw[gr];rfl
theorem RH:MtH (.sl .str) uM:=by intro a h k h1 h2;simp (disch:=omega) only[uM,ab,Js.top a h,rQ,ae]
theorem Vx:Xv (.sl dj) wR:=MH (e:=dj) (H:=λv=>rj (λy _=>some y) (λ_ y _=>some y) v 0) (bad:=λ_ i k=>some (-1)) (f:=cA) (.pair (.int _) (.pair (.int _) (.pair (.int _) .bool))) ly ⟨bN,⟨bN,⟨bN,bN⟩⟩⟩ (λl k i nx=>by kernel_rfl)
theorem agF:MtH fY yZ:=by intro a h k h1 h2;rw[Nz]at h2;rw[aaD];simp (disch:=omega) only[yZ,ab,Dh.top _ h.2.2.2,rQ,ae];rw[Nz];refine congrArg some (by omega)
theorem aeh:Xv (.sl kJ) Cr:=MH (e:=kJ) (H:=λv=>wV (λy _=>some y) (λ_ y _=>some y) v 0) (bad:=λ_ i k=>some (-1)) (f:=cA) (.pair (.int _) (.pair (.int _) (.sl (e:=(.int .i64)) fW))) ly ⟨bN,⟨bN,Dh⟩⟩ (λl k i nx=>by kernel_rfl)
theorem Yz:MtH fE sy:=by intro a h k h1 h2;rw[ES]at h2;rw[Pf];simp (disch:=omega) only[sy,ab,agF _ h.2.1,aeh.top _ h.2.2.1,rQ,ae];rw[ES];refine congrArg some (by omega)
theorem Vy:Xv (.sl cX) wU:=MH (e:=cX) (H:=λv=>rk (λy _=>some y) (λ_ y _=>some y) v 0) (bad:=λ_ i k=>some (-1)) (f:=cA) (.pair (.pair (.int _) (.pair (.int _) (.pair (.int _) (.int _)))) (.pair (.pair (.int _) (.pair (.int _) (.int _))) (.pair (.pair (.int _) (.pair (.int _) (.int _))) (.pair (.pair (.pair (.int _) (.pair (.int _) (.pair (.int _) (.pair (.int _) (.pair (.int _) (.pair (.int _) (.pair (.int _) (.pair (.int _) (.pair (.int _) (.pair (.int _) (.pair (.int _) (.pair (.int _) (.pair (.int _) (.pair (.int _) (.pair (.int _) .str))))))))))))))) (.pair (.int _) (.int _))) (.pair .bool (.int _)))))) ly ⟨⟨bN,⟨bN,⟨bN,bN⟩⟩⟩,⟨⟨bN,⟨bN,bN⟩⟩,⟨⟨bN,⟨bN,bN⟩⟩,⟨⟨⟨bN,⟨bN,⟨bN,⟨bN,⟨bN,⟨bN,⟨bN,⟨bN,⟨bN,⟨bN,⟨bN,⟨bN,⟨bN,⟨bN,⟨bN,bN⟩⟩⟩⟩⟩⟩⟩⟩⟩⟩⟩⟩⟩⟩⟩,⟨bN,bN⟩⟩,⟨bN,bN⟩⟩⟩⟩⟩ (λl k i nx=>by kernel_rfl)
theorem aef:Xv (.sl fY) Cp:=MH (e:=fY) (H:=λv=>wS (λy _=>some y) (λ_ y _=>some y) v 0) (bad:=λ_ i k=>some (-1)) (f:=cA) (.pair (.int _) (.pair (.int _) (.pair (.int _) (.sl (e:=(.int .i64)) fW)))) ly ⟨bN,⟨bN,⟨bN,Dh⟩⟩⟩ (λl k i nx=>by kernel_rfl)
theorem Yr:Xv (.sl fy) yk:=MH (e:=fy) (H:=λv=>tq (λy _=>some y) (λ_ y _=>some y) v 0) (bad:=λ_ i k=>some (-1)) (f:=cA) (.pair (.int _) (.pair (.int _) (.pair (.int _) (.pair (.int _) (.pair .bool .bool))))) ly ⟨bN,⟨bN,⟨bN,⟨bN,⟨bN,bN⟩⟩⟩⟩⟩ (λl k i nx=>by kernel_rfl)
theorem aee:Xv (.sl .bool) Co:=by
 refine TR (e:=.bool) (H:=λv=>mn (λy _=>some y) (λ_ y _=>some y) v 0) (λl i hi x k nx hm h1 h2 h3 hx=>?_) (λl k nx=>?_)
 ·try simp only[jv,lZ,ju,ma,bz,cP,<-bV]at h2
  try simp only[DD,LR,Ib,LU,jv,lZ,ju,ma,bz,cP,<-bV]at hm
  simp only[mn];rw[jF];simp (disch:=omega) only[af,aX hi,hm,ab,bne_self_eq_false,fZ,ai,ae,aj,aF,ne3,rQ,ly];try simp only[jv,lZ,ju,ma,bz,cP,<-bV]
 simp only[mn];rw[gr];rfl
theorem abE:MtH jH uL:=by intro a h k h1 h2;rw[HS]at h2;rw[R6];simp (disch:=omega) only[uL,ab,Dh.top _ h.2.2,rQ,ae];rw[HS];refine congrArg some (by omega)
theorem aeg:Xv (.sl qg) Cq:=MH (e:=qg) (H:=λv=>wT (λy _=>some y) (λ_ y _=>some y) v 0) (bad:=λ_ i k=>some (-1)) (f:=cA) (.pair (.int _) (.pair (.int _) (.pair (.int _) (.pair (.int _) (.pair (.int _) (.pair (.int _) (.pair (.int _) (.pair (.int _) (.int _))))))))) ly ⟨bN,⟨bN,⟨bN,⟨bN,⟨bN,⟨bN,⟨bN,⟨bN,bN⟩⟩⟩⟩⟩⟩⟩⟩ (λl k i nx=>by kernel_rfl)
theorem aei:Xv (.sl kY) Cs:=MH (e:=kY) (H:=λv=>wW (λy _=>some y) (λ_ y _=>some y) v 0) (bad:=λ_ i k=>some (-1)) (f:=cA) (.pair (.int _) (.pair (.pair (.int _) (.pair (.int _) (.pair (.int _) (.pair (.int _) (.int _))))) (.int _))) ly ⟨bN,⟨⟨bN,⟨bN,⟨bN,⟨bN,bN⟩⟩⟩⟩,bN⟩⟩ (λl k i nx=>by kernel_rfl)
theorem Tv:MtH (.sl kY) oN:=by intro a h k h1 h2;simp (disch:=omega) only[oN,ab,aei.top a h,rQ,ae]
theorem abF:MtH uu uN:=by intro a h k h1 h2;rw[HT]at h2;rw[R7];simp (disch:=omega) only[uN,ab,Dh.top _ h.2,rQ,ae];rw[HT];refine congrArg some (by omega)
theorem VL:MtH fS qv:=by intro a h k h1 h2;rw[C7]at h2;rw[MG];simp (disch:=omega) only[qv,ab,aeg.top _ h.1,Tv _ h.2.1,abF _ h.2.2,rQ,ae];rw[C7];refine congrArg some (by omega)
theorem Yq:Xv (.sl dF) yj:=MH (e:=dF) (H:=λv=>tp (λy _=>some y) (λ_ y _=>some y) v 0) (bad:=λ_ i k=>some (-1)) (f:=cA) (.pair (.pair (.int _) (.pair (.int _) (.pair (.int _) (.pair (.int _) (.int _))))) (.pair (.int _) (.pair .str .bool))) ly ⟨⟨bN,⟨bN,⟨bN,⟨bN,bN⟩⟩⟩⟩,⟨bN,⟨bN,bN⟩⟩⟩ (λl k i nx=>by kernel_rfl)
theorem agE:MtH cI pQ:=by intro a h k h1 h2;rw[Ny]at h2;rw[aaC];simp (disch:=omega) only[pQ,ab,RH _ h.1,Js.top _ h.1,Vx.top _ h.2.1,Yz _ h.2.2.1,Vy.top _ h.2.2.2.1,aef.top _ h.2.2.2.2.1,Yr.top _ h.2.2.2.2.2.1,aee.top _ h.2.2.2.2.2.2.1,abE _ h.2.2.2.2.2.2.2.1,VL _ h.2.2.2.2.2.2.2.2.1,Yq.top _ h.2.2.2.2.2.2.2.2.2.1,RH _ h.2.2.2.2.2.2.2.2.2.2.2.1,Js.top _ h.2.2.2.2.2.2.2.2.2.2.2.1,Dh.top _ h.2.2.2.2.2.2.2.2.2.2.2.2.1,Dh.top _ h.2.2.2.2.2.2.2.2.2.2.2.2.2.1,rQ,ae];rw[Ny];refine congrArg some (by omega)
theorem agV:UR (.sl As) DW:=KC (e:=As) (T:=yl (λ_ y _ z=>some (y,z))) (f:=cA) (.pair (.int _) (.pair (.pair (.int _) (.pair (.int _) (.pair (.int _) (.pair (.int _) (.pair (.int _) (.pair (.int _) (.pair (.int _) (.pair (.int _) (.pair (.int _) (.pair (.int _) (.pair (.int _) (.pair (.int _) (.pair (.int _) (.pair (.int _) (.pair (.int _) .str))))))))))))))) (.pair (.int _) (.pair (.int _) (.pair .str (.int _)))))) ly ⟨bN,⟨⟨bN,⟨bN,⟨bN,⟨bN,⟨bN,⟨bN,⟨bN,⟨bN,⟨bN,⟨bN,⟨bN,⟨bN,⟨bN,⟨bN,⟨bN,bN⟩⟩⟩⟩⟩⟩⟩⟩⟩⟩⟩⟩⟩⟩⟩,⟨bN,⟨bN,⟨bN,bN⟩⟩⟩⟩⟩ (λl k i nx=>by kernel_rfl)
end Go.Pu
end
namespace Go.Pu
open Go.Dn
set_option linter.unusedSimpArgs false
set_option linter.unusedVariables false
noncomputable section
theorem Ud (a:Host)(l:aq Act)(ha:rM cI a)(Hb:rM (.sl As) l):tn a l=some true:=by
 unfold tn;refine(ahm a ha).use (by omega) (by omega) λhl=>?_;refine(ahl l Hb).use (by omega) (by omega) λAA=>?_;have hA:br 1048576 cI a:=Iu (by omega);have hL:br 1048576 (.sl As) l:=Iu (by omega);have hz:Ar 1048576 a:=Ar.of (by omega);have hxx:∀x∈l,x.2.2.2.2.1.length<=10^9:=λx hx=>aE (hL.2 x hx).2.2.2.2.1 (by omega);have hs:=W1 a l (hz.mono) hxx;have hi:=VZ a l (hz.mono) hxx;have c1:di cI a<=Nd 1048576 cI:=aE NA (kz hA);have b1:Nd 1048576 cI<=400000000000000:=by decide
 have c3:lP (.sl As) l<=Nd 1048576 (.sl As):=kz hL;have b3:Nd 1048576 (.sl As)<=400000000000000:=by decide
 have g:=WG (by omega) hz l;have c2:di cI (nS a l).1<=400000000000000:=by rcases g.2.2 with h|h;rw[h];omega;exact aE (agx g.1.z h) (by omega)
 have hR:br 26848576 cI (nS a l).1:=g.1.z;have hI:br 40 (.sl (.int .i64)) (nS a l).2:=⟨g.2.1,λ_ _=>trivial⟩
 generalize nS a l=q at hs hi hR hI c2;have c4:lP (.sl (.int .i64)) q.2<=Nd 40 (.sl (.int .i64)):=kz hI;have b4:Nd 40 (.sl (.int .i64))<=1000:=by decide
 have m1:=aaE a (hA.mono) 1 (by omega) (by omega);have m4:=agV l (hL.mono) (1+(di cI a:Int)) (by omega) (by omega);have m2:=aaE q.1 (hR.mono) 1 (by omega) (by omega);have m5:=DC q.2 (hI.mono) (1+(di cI q.1:Int)) (by omega) (by omega);have m3:∀t,t=Gv cI q.1 1->pQ t 1=some (1+(di cI q.1:Int)):=by rintro _ rfl;exact agE q.1 (hR.mono) 1 (by omega) (by omega)
 have m6:=Dh q.2 (hI.mono) (1+(di cI q.1:Int)) (by omega) (by omega);simp (disch:=omega) only[aht a hA,ahs l hL,ab,hs,hi,aai q.1 (hR.mono),aai a (hA.mono),agp l (hL.mono),EX q.2 (hI.mono),fZ,bne_self_eq_false,ai,ae,m1,m2,m4,m5,rQ];rw[m3];simp (disch:=omega) only[ab,rQ,ae,bne_self_eq_false,m6];rfl
end
end Go.Pu
