import Derived.KernelRfl
import Derived.Test.YtfbhfnniblfpbaaGreatPuX2
namespace Go.Pu
open Go.Dn
set_option linter.unusedSimpArgs false
set_option linter.unusedVariables false
noncomputable section
variable {e:CT} {h:Host} {f:Int->aw Bytes} {α:Type} {l:ar aA}
/- Marks, once for all types: what the laws write into data, and that it is found there again. -/
theorem IC {R:Type}(K:Int->Bytes->aw R):∀(n:Nat)(v:Int)(s:Bytes)(m:Nat),0<=v->v<=1000000000000000->v<10^n->s.length+n<=1000->n<m->∃s':Bytes,s'.length<=1000/\∃v',aJ (su K) m (v,s)=K v' s'
 |0,v,s,m,h0,_,h1,hs,hm=>by
  have hv:v=0:=by simp at h1;omega
  subst hv;cases m with|zero=>omega|succ m=>exact⟨s,by omega,0,by rw[aJ];rfl⟩
 |n+1,v,s,m,h0,hb,h1,hs,hm=>by cases m with|zero=>omega|succ m=>rw[aJ];simp only[su];by_cases hv:v>0;have hq:Int.tdiv v 10=v/10:=Int.tdiv_eq_ediv_of_nonneg h0;rw[ax hv];simp only[af];rw[mG,aQ (by simp[aM];omega),mG,hq,aj (n:=v/10) (by omega) (by omega)];exact IC K n (v/10) _ m (by omega) (by omega) (by rw[Int.pow_succ]at h1;omega) (by simp[aM];omega) (by omega);rw[aq hv];exact⟨s,by omega,v,rfl⟩
theorem Qx (k:Int)(h1:1<=k)(h2:k<=1000000000000000):∃s,cJ k=some s:=by have xV:=cS;unfold cJ;rw[gq];simp only[ae];obtain⟨s,hs,v,h⟩:=IC (λ(_:Int) (y2:Bytes)=>room (List.length ([109]:Bytes)+List.length y2) (some (([109]:Bytes)++y2))) 16 k [] fuel (by omega) h2 (by omega) (by simp) (by omega);rw[h,aQ (by simp;omega)];exact⟨_,rfl⟩
def txt (k:Int):Bytes:=(cJ k).getD []
theorem lL (k:Int)(h1:1<=k)(h2:k<=1000000000000000):cJ k=some (txt k):=by obtain⟨s,hs⟩:=Qx k h1 h2;rw[txt,hs];rfl
def mH:(t:CT)->t.D->Nat
 | .int _,_=>1
 | .bool,_=>1
 | .str,_=>1
 | .sl e,xs=>(xs.map (mH e)).sum
 | .pair a b,x=>mH a x.1+mH b x.2
def mkL (f:α->Int->α)(c:α->Nat):ar α->Int->ar α
 |[],_=>[]
 |x::xs,k=>f x k::mkL f c xs (k+c x)
def mk:(t:CT)->t.D->Int->t.D
 | .int _,_,k=>k
 | .bool,_,k=>Int.tmod k 3==0
 | .str,_,k=>txt k
 | .sl e,xs,k=>mkL (mk e) (mH e) xs k
 | .pair a b,x,k=>(mk a x.1 k,mk b x.2 (k+mH a x.1))
def dj:(t:CT)->t.D->Nat
 | .int _,_=>0
 | .bool,_=>0
 | .str,_=>0
 | .sl e,xs=>mH (.sl e) xs
 | .pair a b,x=>dj a x.1+dj b x.2
def Gk:(t:CT)->t.D->Int->t.D
 | .int _,x,_=>x
 | .bool,x,_=>x
 | .str,x,_=>x
 | .sl e,xs,k=>mk (.sl e) xs k
 | .pair a b,x,k=>(Gk a x.1 k,Gk b x.2 (k+dj a x.1))
theorem Lw {k:IntKind}(x k':Int):mk (.int k) x k'=k':=rfl
theorem HS (x:Bool)(k:Int):mk .bool x k=(Int.tmod k 3==0):=rfl
theorem Lx (x:Bytes)(k:Int):mk .str x k=txt k:=rfl
theorem Dr {a b:CT}(x:a.D×b.D)(k:Int):mk (.pair a b) x k=(mk a x.1 k,mk b x.2 (k+mH a x.1)):=rfl
theorem lW {k:IntKind}(x:Int):mH (.int k) x=1:=rfl
theorem jo (x:Bool):mH .bool x=1:=rfl
theorem lY (x:Bytes):mH .str x=1:=rfl
theorem jq {a b:CT}(x:a.D×b.D):mH (.pair a b) x=mH a x.1+mH b x.2:=rfl
theorem uP {k:IntKind}(x k':Int):Gk (.int k) x k'=x:=rfl
theorem py (x:Bool)(k:Int):Gk .bool x k=x:=rfl
theorem uQ (x:Bytes)(k:Int):Gk .str x k=x:=rfl
theorem pz {a b:CT}(x:a.D×b.D)(k:Int):Gk (.pair a b) x k=(Gk a x.1 k,Gk b x.2 (k+dj a x.1)):=rfl
theorem pc {k:IntKind}(x:Int):dj (.int k) x=0:=rfl
theorem lN (x:Bool):dj .bool x=0:=rfl
theorem pe (x:Bytes):dj .str x=0:=rfl
theorem lO {a b:CT}(x:a.D×b.D):dj (.pair a b) x=dj a x.1+dj b x.2:=rfl
theorem ne3:¬(3:Int)=0:=by omega
theorem rM {n:Int}(h:¬n<0):decide (n<0)=false:=aq h
theorem oA {l:ar α}{i:Nat}(x:α)(h:i<l.length):idx (l.set i x) (i:Int)=some x:=by rw[Np,List.getElem?_set_self h]
theorem RK {T:((ar e.D×Int×Int×ar e.D)->aw (Int×ar e.D))->(ar e.D×Int×Int×ar e.D)->aw (Int×ar e.D)}
 (hs:∀(l:ar e.D)(i:Nat)(hi:i<l.length)(k:Int) nx,1<=k->k+mH e l[i]<=1000000000000000->l.length<=1000000000000->bu 1000000000000 e l[i]->
  T nx (l,k,(i:Int),l)=nx (l.set i (mk e l[i] k),k+mH e l[i],(i:Int)+1,l.set i (mk e l[i] k)))
 (hf:∀(l:ar e.D)(k:Int) nx,T nx (l,k,(l.length:Int),l)=some (k,l)):
 ∀(xs pre:ar e.D)(k:Int)(n:Nat),1<=k->k+mH (.sl e) xs<=1000000000000000->pre.length+xs.length<=1000000000000->(∀x∈xs,bu 1000000000000 e x)->xs.length<n->
  aJ T n (pre++xs,k,(pre.length:Int),pre++xs)=some (k+mH (.sl e) xs,pre++mk (.sl e) xs k)
 |[],pre,k,n,_,_,_,_,hn=>by cases n with|zero=>omega|succ n=>rw[aJ,bp,hf];simp[mH,mk,mkL]
 |x::xs,pre,k,n,h1,h2,h3,h4,hn=>by
  cases n with
  |zero=>omega
  |succ n=>
   have hc:mH (.sl e) (x::xs)=mH e x+mH (.sl e) xs:=by simp[mH]
   have hi:pre.length<(pre++x::xs).length:=by simp
   have hx:(pre++x::xs)[pre.length]=x:=by simp
   simp only[bC]at h3 hn;rw[aJ,hs _ pre.length hi k _ h1 (by rw[hx];omega) (by simp;omega) (by rw[hx];exact h4 x (by simp)),hx];have DG:(pre++x::xs).set pre.length (mk e x k)=(pre++[mk e x k])++xs:=by rw[List.set_append_right _ _ (aU _),lM,List.set_cons_zero,aN];rfl
   have hl:((pre.length:Int)+1)=(((pre++[mk e x k]).length:Nat):Int):=by simp
   rw[DG,hl,RK hs hf xs _ _ n (by omega) (by omega) (by simp;omega) (λy hy=>h4 y (by simp[hy])) (by omega)];rw[hc];congr 1;refine Prod.ext (by simp only;omega) ?_;simp only[mk,mkL,aN,List.singleton_append]
theorem Rh {T:ar e.D->((Int×Int)->aw Int)->(Int×Int)->aw Int}
 (hs:∀(l:ar e.D)(i:Nat)(hi:i<l.length)(x:e.D)(k:Int) nx,l[i]=mk e x k->1<=k->k+mH e x<=1000000000000000->l.length<=1000000000000->bu 1000000000000 e x->
  T l nx (k,(i:Int))=nx (k+mH e x,(i:Int)+1))
 (hf:∀(l:ar e.D)(k:Int) nx,T l nx (k,(l.length:Int))=some k):
 ∀(xs pre:ar e.D)(k:Int)(n:Nat),1<=k->k+mH (.sl e) xs<=1000000000000000->pre.length+xs.length<=1000000000000->(∀x∈xs,bu 1000000000000 e x)->xs.length<n->
  aJ (T (pre++mk (.sl e) xs k)) n (k,(pre.length:Int))=some (k+mH (.sl e) xs)
 |[],pre,k,n,_,_,_,_,hn=>by
  cases n with
  |zero=>omega
  |succ n=>
   have:pre++mk (.sl e) ([]:ar e.D) k=pre:=by simp[mk,mkL]
   rw[aJ,this,hf];simp[mH]
 |x::xs,pre,k,n,h1,h2,h3,h4,hn=>by
  cases n with
  |zero=>omega
  |succ n=>
   have hc:mH (.sl e) (x::xs)=mH e x+mH (.sl e) xs:=by simp[mH]
   have hm:pre++mk (.sl e) (x::xs) k=(pre++[mk e x k])++mk (.sl e) xs (k+mH e x):=by simp[mk,mkL]
   have hlen:∀(ys:ar e.D)(k:Int),(mk (.sl e) ys k).length=ys.length:=by intro ys;induction ys with|nil=>intro k;rfl|cons y ys ih=>intro k;have:=ih (k+mH e y);simp only[mk,mkL,bC]at this⊢;omega
   simp only[bC]at h3 hn;rw[aJ,hm,hs _ pre.length (by simp) x k _ (by simp) h1 (by omega) (by have:=hlen xs (k+mH e x);simp;omega) (h4 x (by simp))];have hl:((pre.length:Int)+1)=(((pre++[mk e x k]).length:Nat):Int):=by simp
   rw[hl,Rh hs hf xs _ _ n (by omega) (by omega) (by simp;omega) (λy hy=>h4 y (by simp[hy])) (by omega),hc];congr 1;omega
def W7 (t:CT)(mark:t.D->Int->aw (Int×t.D)):Prop:=∀(a:t.D)(_:bu 1000000000000 t a)(k:Int)(_:1<=k)(_:k+mH t a<=1000000000000000),mark a k=some (k+mH t a,mk t a k)
def W6 (t:CT)(held:t.D->Int->aw Int):Prop:=∀(a:t.D)(_:bu 1000000000000 t a)(k:Int)(_:1<=k)(_:k+mH t a<=1000000000000000),held (mk t a k) k=some (k+mH t a)
theorem Tw {T:((ar e.D×Int×Int×ar e.D)->aw (Int×ar e.D))->(ar e.D×Int×Int×ar e.D)->aw (Int×ar e.D)}(hs:∀(l:ar e.D)(i:Nat)(hi:i<l.length)(k:Int) nx,1<=k->k+mH e l[i]<=1000000000000000->l.length<=1000000000000->bu 1000000000000 e l[i]-> T nx (l,k,(i:Int),l)=nx (l.set i (mk e l[i] k),k+mH e l[i],(i:Int)+1,l.set i (mk e l[i] k)))(hf:∀(l:ar e.D)(k:Int) nx,T nx (l,k,(l.length:Int),l)=some (k,l)):W7 (.sl e) (λa k=>aJ T fuel (a,k,0,a)):=by have xV:=cS;intro a h k h1 h2;have hl:a.length<=1000000000000:=h.1;exact RK hs hf a [] k fuel h1 h2 (by simp;omega) h.2 (by omega)
theorem Tv {H:ar e.D->((Int×Int)->aw Int)->(Int×Int)->aw Int}(gs:∀(l:ar e.D)(i:Nat)(hi:i<l.length)(x:e.D)(k:Int) nx,l[i]=mk e x k->1<=k->k+mH e x<=1000000000000000->l.length<=1000000000000->bu 1000000000000 e x-> H l nx (k,(i:Int))=nx (k+mH e x,(i:Int)+1))(gf:∀(l:ar e.D)(k:Int) nx,H l nx (k,(l.length:Int))=some k):W6 (.sl e) (λa k=>aJ (H a) fuel (k,0)):=by have xV:=cS;intro a h k h1 h2;have hl:a.length<=1000000000000:=h.1;exact Rh gs gf a [] k fuel h1 h2 (by simp;omega) h.2 (by omega)
def MtM (t:CT)(mark:t.D->Int->aw (Int×t.D)):Prop:=∀(a:t.D)(_:bu 1000000000000 t a)(k:Int)(_:1<=k)(_:k+dj t a<=1000000000000000),mark a k=some (k+dj t a,Gk t a k)
def MtH (t:CT)(held:t.D->Int->aw Int):Prop:=∀(a:t.D)(_:bu 1000000000000 t a)(k:Int)(_:1<=k)(_:k+dj t a<=1000000000000000),held (Gk t a k) k=some (k+dj t a)
theorem W7.top {mark:ar e.D->Int->aw (Int×ar e.D)}(h:W7 (.sl e) mark):MtM (.sl e) mark:=h
theorem W6.top {held:ar e.D->Int->aw Int}(h:W6 (.sl e) held):MtH (.sl e) held:=h
def OkW:{t:CT}->Xl FM t->Prop
 |_,.sl (e:=e) m=>W7 (.sl e) m
 |_,.pair a b=>OkW a/\OkW b
 |_,_=>True
theorem TS {R:Type}(hf:∀k,1<=k->k<=1000000000000000->f k=some (txt k)){l:ar α}{i:Nat}(hi:i<l.length):∀{t:CT}(n:Xl FM t)(_:OkW n)(g:α->t.D)(s:α->t.D->α)(_:∀y v,g (s y v)=v)(_:∀y v w,s (s y v) w=s y w)(x:α)(k:Int)(K:ar α->Int->aw R),1<=k->k+mH t (g x)<=1000000000000000->bu 1000000000000 t (g x)->
 Hh f (i:Int) n g s (l.set i x) (l.set i x) k K=K (l.set i (s x (mk t (g x) k))) (k+mH t (g x))
 |_,.int _,_,g,s,_,_,x,k,K,h1,h2,_=>by simp only[lW]at h2⊢;rw[Hh,oA x hi,ab,ab,ay,ei,aj (by omega) (by omega)];rfl
 |_,.bool,_,g,s,_,_,x,k,K,h1,h2,_=>by simp only[jo]at h2⊢;rw[Hh,oA x hi,ab,ab,ay,ei,aj (by omega) (by omega)];rfl
 |_,.str,_,g,s,_,_,x,k,K,h1,h2,_=>by simp only[lY]at h2⊢;rw[Hh,hf k h1 (by omega),ab,oA x hi,ab,ab,ay,ei,aj (by omega) (by omega)];rfl
 |_,.sl m,hn,g,s,_,_,x,k,K,h1,h2,h3=>by rw[Hh,oA x hi,ab,ab,hn (g x) h3 k h1 h2,ab,ay,ei]
 |_,.pair (a:=ca) (b:=cb) a b,hn,g,s,l1,l2,x,k,K,h1,h2,h3=>by rw[jq]at h2⊢;have e1:=TS (R:=R) hf hi a hn.1 (λy=>(g y).1) (λy v=>s y (v,(g y).2)) (λy v=>by simp only[l1]) (λy v w=>by simp only[l1,l2]) x k;rw[Hh,e1 _ h1 (by show k+((mH ca (g x).1:Nat):Int)<=_;omega) h3.1];have e2:=TS (R:=R) hf hi b hn.2 (λy=>(g y).2) (λy v=>s y ((g y).1,v)) (λy v=>by simp only[l1]) (λy v w=>by simp only[l1,l2]) (s x (mk ca (g x).1 k,(g x).2)) (k+mH ca (g x).1) K (by omega) (by simp only[l1];omega) (by simp only[l1];exact h3.2);rw[e2];simp only[l1,l2,Dr];congr 1;omega
theorem Mo (n:Xl FM e){T:((ar e.D×Int×Int×ar e.D)->aw (Int×ar e.D))->(ar e.D×Int×Int×ar e.D)->aw (Int×ar e.D)}(hf:∀k,1<=k->k<=1000000000000000->f k=some (txt k))(hn:OkW n)(he:∀(l:ar e.D)(k i:Int) nx,T nx (l,k,i,l)=cond (decide (i<(l.length:Int))) (Hh f i n (λy=>y) (λ_ v=>v) l l k (λL k'=>nx (L,k',ak (i+1),L))) (some (k,l))):W7 (.sl e) (λa k=>aJ T fuel (a,k,0,a)):=by
 refine Tw (λl i hi k nx h1 h2 h3 hx=>?_) (λl k nx=>?_)
 ·have hl:l=l.set i l[i]:=(List.set_getElem_self hi).symm;rw[he,jP,af];conv=>lhs;rw[hl]
  rw[TS hf hi n hn (λy=>y) (λ_ v=>v) (λ_ _=>rfl) (λ_ _ _=>rfl) l[i] k _ h1 h2 hx];rw[aj (by omega) (by omega)]
 rw[he,gq];rfl
def OkV:{t:CT}->Xl FH t->Prop
 |_,.sl (e:=e) m=>W6 (.sl e) m
 |_,.pair a b=>OkV a/\OkV b
 |_,_=>True
theorem TR {R:Type}(hf:∀k,1<=k->k<=1000000000000000->f k=some (txt k)){v:ar α}{i:Nat}(hi:i<v.length)(bad:Int->aw R):∀{t:CT}(n:Xl FH t)(_:OkV n)(g:α->t.D)(K:Int->aw R)(x:t.D)(k:Int),1<=k->k+mH t x<=1000000000000000->bu 1000000000000 t x->g v[i]=mk t x k->
 Hg f (i:Int) v bad n g K k=K (k+mH t x)
 |_,.int _,_,g,K,x,k,h1,h2,_,h4=>by simp only[lW]at h2⊢;have h5:g v[i]=k:=h4;rw[Hg,aX hi,ab,h5,bne_self_eq_false,ae,aj (by omega) (by omega)];rfl
 |_,.bool,_,g,K,x,k,h1,h2,_,h4=>by simp only[jo]at h2⊢;have h5:g v[i]=(Int.tmod k 3==0):=h4;rw[Hg,aX hi,ab,h5,fY,ai,ae,aj (by omega) (by omega)];rfl
 |_,.str,_,g,K,x,k,h1,h2,_,h4=>by simp only[lY]at h2⊢;have h5:g v[i]=txt k:=h4;rw[Hg,aX hi,ab,hf k h1 (by omega),ab,h5,fY,ai,ae,aj (by omega) (by omega)];rfl
 |_,.sl m,hn,g,K,x,k,h1,h2,h3,h4=>by rw[Hg,aX hi,ab,h4,hn x h3 k h1 h2,ab,gq,ae]
 |_,.pair a b,hn,g,K,x,k,h1,h2,h3,h4=>by rw[jq]at h2⊢;rw[Dr]at h4;rw[Hg,TR hf hi bad a hn.1 _ _ x.1 k h1 (by omega) h3.1 (by simp only[h4]),TR hf hi bad b hn.2 _ _ x.2 _ (by omega) (by omega) h3.2 (by simp only[h4])];congr 1;omega
theorem Mn (n:Xl FH e){H:ar e.D->((Int×Int)->aw Int)->(Int×Int)->aw Int}{bad:ar e.D->Int->Int->aw Int}(hf:∀k,1<=k->k<=1000000000000000->f k=some (txt k))(hn:OkV n)(he:∀(l:ar e.D)(k i:Int) nx,H l nx (k,i)=cond (decide (i<(l.length:Int))) (Hg f i l (bad l i) n (λy=>y) (λk'=>nx (k',ak (i+1))) k) (some k)):W6 (.sl e) (λa k=>aJ (H a) fuel (k,0)):=by refine Tv (λl i hi x k nx hm h1 h2 h3 hx=>?_) (λl k nx=>?_);rw[he,jP,af,TR hf hi _ n hn _ _ x k h1 h2 hx hm,aj (by omega) (by omega)];rw[he,gq];rfl
theorem Nh:∀{t:CT}{x:t.D},dj t x<=mH t x
 | .int _,_=>by simp[dj]
 | .bool,_=>by simp[dj]
 | .str,_=>by simp[dj]
 | .sl _,_=>aU _
 | .pair a b,x=>by simp only[dj,mH];exact Nat.add_le_add Nh Nh
def Qf (n:Nat):CT->Nat
 | .sl e=>n*Qf n e
 | .pair a b=>Qf n a+Qf n b
 |_=>1
theorem lX {n:Nat}:∀{t:CT}{x:t.D},bu n t x->mH t x<=Qf n t
 | .int _,_,_=>by simp[mH,Qf]
 | .bool,_,_=>by simp[mH,Qf]
 | .str,_,_=>by simp[mH,Qf]
 | .sl e,xs,h=>by
  have h1:∀l:ar e.D,(∀x∈l,bu n e x)->(l.map (mH e)).sum<=l.length*Qf n e:=by intro l;induction l with|nil=>simp|cons y l ih=>intro hl;have:=lX (hl y (by simp));have:=ih (λx hx=>hl x (by simp[hx]));simp only[dZ,List.sum_cons,bC,cn,dN];omega
  simp only[mH,Qf];exact aE (h1 xs h.2) (bZ _ h.1)
 | .pair a b,x,h=>by simp only[mH,Qf];exact Nat.add_le_add (lX h.1) (lX h.2)
theorem SJ {n:Nat}:∀{xs:ar e.D},(∀x∈xs,bu n e x)->mH (.sl e) xs<=xs.length*Qf n e
 |[],_=>by simp[mH]
 |y::l,h=>by have h1:=lX (h y (by simp));have h2:=SJ (xs:=l) (λx hx=>h x (by simp[hx]));simp only[mH,dZ,List.sum_cons,bC,cn,dN]at h2⊢;omega
structure MQ (h:Host):Prop where
 pl:h.2.2.2.2.1.length<=2
 w:h.2.2.1.2.2.1.length<=16
theorem adP (hb:fF h=true):MQ h:=by have hl:=nk (by grind[fF]:xe h=true);have ht:=FQ (t:=h.2.2.1) (by grind[fF]);exact⟨by omega,ht⟩
theorem N7 {a b:Host}{k:Nat}(f:MQ a)(h:lG k a b):MQ b:=⟨by rw[h.pl];exact f.pl,by rw[h.tx];exact f.w⟩
theorem adR (f:MQ h):MQ (Hs h):=by grind[Hs,N7,sW,FO]
theorem aa9 (f:MQ h):MQ (EL h):=by grind[EL,N7,sW,C4]
theorem aba (b:Int)(f:MQ h):MQ (xm h b).1:=by grind[xm,N7,BI]
theorem SV (f:MQ h):MQ (sY h):=by unfold sY;cases fF h with|false=>exact f|true=>refine⟨f.pl,?_⟩;simp only[af];generalize (if(h.2.2.1.2.2.1.length:Int)<ak ((kE h.2.1 h.1 0 h.2.2.1.1).2.2.1+(kE h.2.1 h.1 0 h.2.2.1.1).2.2.2) then(h.2.2.1.2.2.1.length:Int) else ak ((kE h.2.1 h.1 0 h.2.2.1.1).2.2.1+(kE h.2.1 h.1 0 h.2.2.1.1).2.2.2))=q;unfold lP;cases PZ ((kE h.2.1 h.1 0 h.2.2.1.1).1,h.2.2.1.2)&&dH q 0 (h.2.2.1.2.2.1.length:Int)with|false=>exact f.w|true=>show(h.2.2.1.2.2.1.drop q.toNat).length<=16;rw[bf];have:=f.w;omega
theorem adO {n:Nat}(z:bu n cK h)(f:MQ h):mH cK h<=400*(n+1):=by
 have hw:h.2.2.1.2.2.1.length*Qf n kH<=16*Qf n kH:=bZ _ f.w;have hp:h.2.2.2.2.1.length*Qf n fX<=2*Qf n fX:=bZ _ f.pl;have s:mH cK h=mH (.sl .str) h.1+(mH (.sl di) h.2.1+((4+(mH fX h.2.2.1.2.1+(mH (.sl kH) h.2.2.1.2.2.1+1)))+(mH (.sl cW) h.2.2.2.1+(mH (.sl fX) h.2.2.2.2.1+(mH (.sl fw) h.2.2.2.2.2.1+(mH (.sl .bool) h.2.2.2.2.2.2.1+(mH jC h.2.2.2.2.2.2.2.1+(mH fS h.2.2.2.2.2.2.2.2.1+(mH (.sl dE) h.2.2.2.2.2.2.2.2.2.1+(1+(mH (.sl .str) h.2.2.2.2.2.2.2.2.2.2.2.1+(mH (.sl (.int .i64)) h.2.2.2.2.2.2.2.2.2.2.2.2.1+(mH (.sl (.int .i64)) h.2.2.2.2.2.2.2.2.2.2.2.2.2.1+5))))))))))))):=by kernel_rfl
 have e1:mH (.sl .str) h.1<=n*1:=aE (lX z.1) (fC (by kernel_rfl));have e2:mH (.sl di) h.2.1<=n*4:=aE (lX z.2.1) (fC (by kernel_rfl));have e3:=aE (SJ z.2.2.1.2.2.1.2) hw;have e4:mH (.sl cW) h.2.2.2.1<=n*30:=aE (lX z.2.2.2.1) (fC (by kernel_rfl));have e5:=aE (SJ z.2.2.2.2.1.2) hp;have e6:mH (.sl fw) h.2.2.2.2.2.1<=n*6:=aE (lX z.2.2.2.2.2.1) (fC (by kernel_rfl));have e7:mH (.sl .bool) h.2.2.2.2.2.2.1<=n*1:=aE (lX z.2.2.2.2.2.2.1) (fC (by kernel_rfl));have e8:mH jC h.2.2.2.2.2.2.2.1<=1+(1+n*1):=aE (lX z.2.2.2.2.2.2.2.1) (fC (by kernel_rfl));have e9:mH fS h.2.2.2.2.2.2.2.2.1<=Qf n fS:=lX z.2.2.2.2.2.2.2.2.1;have e10:mH (.sl dE) h.2.2.2.2.2.2.2.2.2.1<=n*8:=aE (lX z.2.2.2.2.2.2.2.2.2.1) (fC (by kernel_rfl));have e11:mH (.sl .str) h.2.2.2.2.2.2.2.2.2.2.2.1<=n*1:=aE (lX z.2.2.2.2.2.2.2.2.2.2.2.1) (fC (by kernel_rfl));have e12:mH (.sl (.int .i64)) h.2.2.2.2.2.2.2.2.2.2.2.2.1<=n*1:=aE (lX z.2.2.2.2.2.2.2.2.2.2.2.2.1) (fC (by kernel_rfl));have e13:mH (.sl (.int .i64)) h.2.2.2.2.2.2.2.2.2.2.2.2.2.1<=n*1:=aE (lX z.2.2.2.2.2.2.2.2.2.2.2.2.2.1) (fC (by kernel_rfl));have e14:mH fX h.2.2.1.2.1<=1+(1+(1+n*1)):=aE (lX z.2.2.1.2.1) (fC (by kernel_rfl));have q1:Qf n kH=1+(1+n*1):=by kernel_rfl
 have q2:Qf n fX=1+(1+(1+n*1)):=by kernel_rfl
 have q3:Qf n fS=n*9+(n*7+(1+n*1)):=by kernel_rfl
 rw[s];omega
theorem agh {n:Nat}(z:bu n cK h)(f:MQ h):dj cK h<=400*(n+1):=aE Nh (adO z f)
def afV (a:Act):aw Bool:=
 aa (aa (some (dH a.1 0 6)) λr1=>cond (!r1) (some true) (some (decide ((a.2.2.2.2.1.length:Int)>600)))) λq2=>
 cond q2 (some false) (
 aa (cond (a.1 !=0) (cond (!((a.2.1.1==0)&&((a.2.1.2.1==0)&&((a.2.1.2.2.1==0)&&((a.2.1.2.2.2.1==0)&&((a.2.1.2.2.2.2.1==0)&&((a.2.1.2.2.2.2.2.1==0)&&((a.2.1.2.2.2.2.2.2.1==0)&&((a.2.1.2.2.2.2.2.2.2.1==0)&&((a.2.1.2.2.2.2.2.2.2.2.1==0)&&((a.2.1.2.2.2.2.2.2.2.2.2.1==0)&&((a.2.1.2.2.2.2.2.2.2.2.2.2.1==0)&&((a.2.1.2.2.2.2.2.2.2.2.2.2.2.1==0)&&((a.2.1.2.2.2.2.2.2.2.2.2.2.2.2.1==0)&&((a.2.1.2.2.2.2.2.2.2.2.2.2.2.2.2.1==0)&&((a.2.1.2.2.2.2.2.2.2.2.2.2.2.2.2.2.1==0)&&((a.2.1.2.2.2.2.2.2.2.2.2.2.2.2.2.2.2==([]:Bytes))&&true))))))))))))))))) (some true) (cond (a.2.2.1 !=0) (some true) (some (a.2.2.2.1 !=0)))) (some false)) λq3=>
 cond q3 (some false) (
 aa (cond (a.1==2) (cond (a.1==5) (some true) (some (a.2.2.2.2.2==0))) (cond (a.2.2.2.2.1==([]:Bytes)) (cond (a.1==5) (some true) (some (a.2.2.2.2.2==0))) (some false))) λq4=>some q4))
theorem aaO (a:Act):∃b,afV a=some b:=by simp_all[afV,cw]
def Uw (a:Act):Bool:=(afV a).getD false
theorem ZM (a:Act):afV a=some (Uw a):=by obtain⟨b,hb⟩:=aaO a;simp[Uw,hb]
theorem agR (a:Act):FD a=some (Uw a):=by rw[<-ZM];unfold FD;rw[cM];rfl
theorem agr (a:Act):EY a=some (Uw a):=by rw[<-ZM];unfold EY;rw[dh];rfl
theorem CU.tx {n:Nat}(k:CU n h)(hn:n<=10^9):Xn h.2.2.1:=
 have z:bu 1000000000 cK h:=k.z.mono hn
 ⟨z.2.2.1.2.1.2.2.2.1,z.2.2.1.2.2.1.1,λx hx=>(z.2.2.1.2.2.1.2 x hx).2.2.1⟩
def Gp (h:Host)(p:aS)(c z:Int):Host×Bool:=
 bif fF h then(((DQ h.2.1 h.1 0 h.2.2.1 p c z).1,h.2.1,(DQ h.2.1 h.1 0 h.2.2.1 p c z).2.1,h.2.2.2),(DQ h.2.1 h.1 0 h.2.2.1 p c z).2.2) else(h,false)
theorem abE (h:Host)(p:aS)(c z:Int)(k:CU 900000000 h):yD h p c z=some (Gp h p c z):=by have zz:bu 1000000000 cK h:=k.z.mono;unfold yD Gp;rw[kx h zz,ab,zG h (k.sz),ab];cases fF h;rfl;simp only[ai,ae,af,abF _ _ _ _ _ _ _ zz.2.1.1 zz.1.1 (k.tx (by omega)) zz.2.2.1.2.2.1.1 (aE k.t (by omega)),ab]
theorem acO (h:Host)(p:aS)(c z:Int)(k:CU 900000000 h):zj h p c z=some (Gp h p c z):=by have zz:bu 1000000000 cK h:=k.z.mono;unfold zj Gp;rw[kC h zz,ab,ud h (k.sz),ab];cases fF h;rfl;simp only[ai,ae,af,acP _ _ _ _ _ _ _ zz.2.1.1 zz.1.1 (k.tx (by omega)) zz.2.2.1.2.2.1.1 (aE k.t (by omega)),ab]
theorem Ra {n:Nat}(hn:128<=n)(l:ar aA)(d:Int)(p:cj)(z:Nat):∀(q:eF)(s:Bytes)(m:br)(a:ar eZ){x},bu n (.sl .str) m->AH l d p z q s m a=some x->bu n (.sl .str) x.2
 |[],s,m,a,x,hm,h=>by cases h;exact hm
 |b::q,s,m,a,x,hm,h=>by rw[AH]at h;cases hq:(mO l m d (lH p b) (s.take z) false).2 with|false=>grind|true=>rw[hq]at h;exact Ra hn l d p z q _ _ _ (Hd hn hm ..) h
theorem Mw {n:Nat}(hn:128<=n)(l:ar aA)(d:Int):∀(q:br)(m:br)(r:kU){x},bu n (.sl .str) m->Bh l d q m r=some x->bu n (.sl .str) x.1
 |[],m,r,x,hm,h=>by cases h;exact hm
 |s::q,m,r,x,hm,h=>by rw[Bh]at h;cases hq:(dz l m d r s).2.2 with|false=>grind|true=>rw[hq]at h;exact Mw hn l d q _ _ (Kv hn hm ..) h
theorem V6 {n:Nat}(hn:128<=n){d:Int}{q:br}{m:br}{r:kU}(hm:bu n (.sl .str) m):bu n (.sl .str) (xi l m d r q).1:=by unfold xi;cases hx:Bh l d q m r with|none=>exact hm|some x=>exact Mw hn l d q m r hm hx
theorem ac7 (p:cj)(n:Int):(kL p n).1.2.2.2.length+(kL p n).2.1.length=p.2.2.2.length:=by grind[kL]
theorem aaU (a:ar gE)(x:gE):(ch (a++[x])).length=(ch a).length+x.2.2.length:=by simp[ch]
theorem Wl:∀l:ar gE,(∀x∈l,1<=x.2.1)->(l.length:Int)<=ed l
 |[],_=>by simp[ed]
 |y::l,h=>by have h1:=Wl l (λx hx=>h x (ec _ hx));grind[ed]
structure ahk (n:Nat) (m:List Bytes) (t:bA) (r:List Bytes×bA×Bool):Prop where
 mem:bu n (.sl .str) r.1
 tx:bu (n+1) fD r.2.1
 sum:r.2.1.2.1.2.2.2.length+(ch r.2.1.2.2.1).length<=n
 w:r.2.1.2.2.1.length<=16\/r.2.1.2.2.1=t.2.2.1
theorem R5 {n:Nat}(hn:128<=n){m:br}{t:bA}{p:aS}{c z:Int}(d:Int)(hm:bu n (.sl .str) m)(ht:bu n fD t)(hs:t.2.1.2.2.2.length+(ch t.2.2.1).length<=n):ahk n m t (DQ l m d t p c z):=by
 have YS:ahk n m t (m,t,false):=⟨hm,ht.mono,hs,Or.inr rfl⟩
 unfold DQ;cases hg:PZ t&&(ej p&&(dH z 1 t.2.1.2.1&&dH c 1 128));exact YS;simp only[ah]at hg;simp only[af];generalize qL p z.toNat=k;cases hk:U0 t k;exact YS;simp only[af];rcases hx:AH l d t.2.1 z.toNat (kL t.2.1 (k:Int)).2.1 (iP p).1 m []with _|x;exact YS;simp only;unfold aav;have hpm:=V6 (n:=n) hn (l:=l) (d:=d) (q:=(oo x.1 c t.2.2.2).map AO) (r:=t.1) (Ra hn l d t.2.1 z.toNat _ _ _ _ hm hx);generalize xi l x.2 d t.1 ((oo x.1 c t.2.2.2).map AO)=w at hpm⊢;cases w.2.2;exact YS;have hl:=ac7 t.2.1 (k:Int);have hb:=aaU t.2.2.1 (t.2.2.2,(k:Int)+1,(kL t.2.1 (k:Int)).2.1);have hb:(ch (t.2.2.1++[(t.2.2.2,(k:Int)+1,(kL t.2.1 (k:Int)).2.1)])).length=(ch t.2.2.1).length+(kL t.2.1 (k:Int)).2.1.length:=hb;refine⟨hpm,⟨⟨bV,bV,bV,bV⟩,⟨bV,bV,bV,?_,λ_ _=>trivial⟩,?_,bV⟩,?_,Or.inl ?_⟩;show(kL t.2.1 (k:Int)).1.2.2.2.length<=n+1;omega;exact Lt (t:=kH) (k:=1) ht.2.2.1 (λy hy=>by rw[eL.1 hy];exact⟨bV,bV,by show(kL t.2.1 (k:Int)).2.1.length<=n;omega,λ_ _=>trivial⟩) (by simp);show(kL t.2.1 (k:Int)).1.2.2.2.length+(ch (t.2.2.1++[(t.2.2.2,(k:Int)+1,(kL t.2.1 (k:Int)).2.1)])).length<=n;omega;show(t.2.2.1++[_]).length<=16;have hq:=hg.1;simp only[PZ,ah]at hq;have Vm:=qw hq.1;have hc:=Wl t.2.2.1 (λx hx=>by have:=aW.1 hq.2.2.2.1 x hx;simp only[jK,ah,bM]at this;omega);unfold U0 at hk;simp only[ah,aP,eI]at hk;rw[au,bl];omega
theorem afn {n:Nat}(hn:1000<=n)(p:aS)(c z:Int)(k:CU n h):CU (n+1) (Gp h p c z).1:=by unfold Gp;cases fF h;exact k.mono;have zz:=k.z;have s:=R5 (by omega) (l:=h.2.1) (p:=p) (c:=c) (z:=z) 0 zz.1 zz.2.2.1 k.t;have z1:bu (n+1) cK h:=zz.mono;exact⟨⟨s.mem.mono,z1.2.1,s.tx,z1.2.2.2⟩,aE s.sum (by omega)⟩
theorem adQ {n:Nat}(hn:1000<=n)(p:aS)(c z:Int)(k:CU n h)(f:MQ h):MQ (Gp h p c z).1:=by unfold Gp;cases fF h;exact f;have s:=R5 (by omega) (l:=h.2.1) (p:=p) (c:=c) (z:=z) 0 k.z.1 k.z.2.2.1 k.t;refine⟨f.pl,?_⟩;rcases s.w with w|w;exact w;show(DQ h.2.1 h.1 0 h.2.2.1 p c z).2.1.2.2.1.length<=16;rw[w];exact f.w
theorem UW {n:Nat}(hn:1000<=n)(x:Bytes)(k:CU n h)(f:MQ h):MQ (ub h x):=by have:=Mx hn x k;exact⟨by rw[this.2.2];exact f.pl,by rw[this.2.1];exact f.w⟩
theorem My (h:Host):∀k,(eT h k).2.2.1=h.2.2.1
 |0=>rfl
 |k+1=>by show(CE k (eT h k)).2.2.1=_;rw[<-My h k];grind[CE]
theorem acA {n:Nat}(hn:1000<=n)(k:CU n h)(f:MQ h):CU (n+645000) (He h)/\MQ (He h):=by
 unfold He;cases hb:fF h;exact⟨k.mono,f⟩;have hl:=nk (Jh hb);have e:=GI hn k.z hl.1;have hw:=f.w;have hp:=CB (n:=n) (by omega) k.z h.2.2.2.1.length;have ht:=(vI (n:=n+322000*h.2.2.2.1.length) (h:=h) hp.2 h.2.2.1.2.2.1.length).1.e;have h4:=xf 256 128 8;simp only[af];have hx:=My (rN h) h.2.2.2.1.length;have hk:=(uc (rN h) h.2.2.2.1.length).pl;have CR:(rN h).2.2.2.2.1.length=h.2.2.2.2.1.length:=by show(returned h h.2.2.1.2.2.1.length).2.2.2.2.1.length=_;rw[ht];exact hp.1.pl
 refine⟨⟨(Bi (by omega) e _).mono,?_⟩,?_,?_⟩;rw[hx];show(lj 256 128 8).1.2.2.2.length+0<=_;omega;rw[hk,CR];exact f.pl;rw[hx];show 0<=16;omega
def adS (f:gh):ar Stream->Int->Int
 |[],_=> -1
 |s::r,i=>if s.1=f then i else adS f r (i+1)
def adn (a b:ar Stream)(f:gh):Bool:=
 match idx a (adS f a 0),idx b (adS f b 0)with
 |some x,some y=>decide (x=y)
 |_,_=>false
def aqy (b:Bool):Int:=bif b then 1 else 0
def IZ (h:Host)(a:Act):Host×Int:=
 bif !fF h|| !Uw a then(h, -1) else
 bif a.1==0 then((Gp h a.2.1 a.2.2.1 a.2.2.2.1).1,aqy (Gp h a.2.1 a.2.2.1 a.2.2.2.1).2) else
 bif a.1==1 then(sY h,0) else
 bif a.1==2 then(ub h a.2.2.2.2.1,0) else
 bif a.1==3 then(EL h,0) else
 bif a.1==4 then(Hs h,0) else
 bif a.1==5 then xm h a.2.2.2.2.2 else(He h,0)
theorem abu (h:Host)(a:Act)(k:CU 90000000 h)(hx:a.2.2.2.2.1.length<=10^9):B7 h a=some (IZ h a):=by
 have z:bu 1000000000 cK h:=k.z.mono;unfold B7 IZ;rw[zG h (k.sz),ab,agr,ab];cases fF h;simp only[cf,af,jQ,ab,kx h z];cases Uw a;simp only[ai,cf,af,ae,Bool.or_true,ab,kx h z];simp only[ai,ae,bU,ab,abE h _ _ _ (k.mono),Tn h (k.mono),Tl h _ (k.mono) hx,Yg h (k.mono),aeE h (k.sz (by omega)) z,VE h _ (k.mono),Qt h (k.sz (by omega)) (k.z.mono)];cases a.1==0;case true=>(simp only[af];cases (Gp h a.2.1 a.2.2.1 a.2.2.2.1).2<;>rfl)
 cases a.1==1;all_goals grind
theorem acG (h:Host)(a:Act)(k:CU 90000000 h)(hx:a.2.2.2.2.1.length<=10^9):FF h a=some (IZ h a):=by
 have z:bu 1000000000 cK h:=k.z.mono;unfold FF IZ;rw[ud h (k.sz),ab,agR,ab];cases fF h;simp only[cf,af,jQ,ab,kC h z];cases Uw a;simp only[ai,cf,af,ae,Bool.or_true,ab,kC h z];simp only[ai,ae,bU,ab,acO h _ _ _ (k.mono),T6 h (k.mono),T4 h _ (k.mono) hx,Zi h (k.mono),afB h (k.sz (by omega)) z,WB h _ (k.mono),QK h (k.sz (by omega)) (k.z.mono)];cases a.1==0;case true=>(simp only[af];cases (Gp h a.2.1 a.2.2.1 a.2.2.2.1).2<;>rfl)
 cases a.1==1;all_goals grind
theorem afW {n:Nat}(hn:1000<=n)(a:Act)(k:CU n h)(f:fF h=true\/MQ h):CU (n+645000) (IZ h a).1/\(fF h=true\/MQ h->MQ (IZ h a).1\/(IZ h a).1=h):=by
 have f:MQ h:=f.elim adP id;unfold IZ;cases !fF h|| !Uw a;case true=>exact⟨k.mono,λ_=>Or.inr rfl⟩
 simp only[ae];cases a.1==0;case true=>exact⟨(afn hn _ _ _ k).mono,λ_=>Or.inl (adQ hn _ _ _ k f)⟩
 cases a.1==1;case true=>exact⟨(Ui (by omega) k).mono,λ_=>Or.inl (SV f)⟩
 cases a.1==2;case true=>exact⟨(Mx hn _ k).1.mono,λ_=>Or.inl (UW hn _ k f)⟩
 cases a.1==3;case true=>exact⟨(abc hn k).mono,λ_=>Or.inl (aa9 f)⟩
 cases a.1==4;case true=>exact⟨(afP hn k).mono,λ_=>Or.inl (adR f)⟩
 cases a.1==5 with|true=>exact⟨(Wn hn _ k).mono,λ_=>Or.inl (aba _ f)⟩|false=>grind[acA]
theorem adm {n:Nat}(hn:1000<=n)(a:Act)(k:CU n h)(f:MQ h):CU (n+645000) (IZ h a).1/\MQ (IZ h a).1:=by grind[afW]
end
end Go.Pu
section
namespace Go.Pu
open Go.Dn
set_option linter.unusedVariables false
set_option linter.unusedSimpArgs false
set_option maxRecDepth 100000
set_option maxHeartbeats 4000000
theorem Fm:W7 (.sl (.int .i64)) gU:=by
 refine Tw (e:=(.int .i64)) (T:=nK (λ_ y _ z=>some (y,z))) (λl i hi k nx h1 h2 h3 hx=>?_) (λl k nx=>?_)
 ·try simp only[jq,lW,jo,lY,bz,cO,<-bS]at h2
  simp only[nK];rw[jP];simp (disch:=omega) only[af,aX hi,ab,oA,aH,ei,ay,aj,aF,ne3,lL];try simp only[Dr,Lw,HS,Lx,jq,lW,jo,lY,bz,cO,<-bS]
 simp only[nK];rw[gq];rfl
theorem Jp:W7 (.sl .str) sr:=by
 refine Tw (e:=.str) (T:=kh (λ_ y _ z=>some (y,z))) (λl i hi k nx h1 h2 h3 hx=>?_) (λl k nx=>?_)
 ·try simp only[jq,lW,jo,lY,bz,cO,<-bS]at h2
  simp only[kh];rw[jP];simp (disch:=omega) only[af,aX hi,ab,oA,aH,ei,ay,aj,aF,ne3,lL];try simp only[Dr,Lw,HS,Lx,jq,lW,jo,lY,bz,cO,<-bS]
 simp only[kh];rw[gq];rfl
theorem RN:MtM (.sl .str) uM:=by intro a h k h1 h2;simp (disch:=omega) only[uM,ab,Jp.top a h]
theorem VQ:W7 (.sl di) wS:=Mo (e:=di) (T:=ri (λ_ y _ z=>some (y,z))) (f:=cJ) (.pair (.int _) (.pair (.int _) (.pair (.int _) .bool))) lL ⟨bV,⟨bV,⟨bV,bV⟩⟩⟩ (λl k i nx=>by kernel_rfl)
theorem Ng (a:cj):dj fX a=0+(0+(0+(dj (.sl (.int .i64)) a.2.2.2))):=rfl
theorem aam (a:cj)(k:Int):Gk fX a k=(a.1,a.2.1,a.2.2.1,Gk (.sl (.int .i64)) a.2.2.2 (k)):=by simp only[pz,uP,py,uQ,lO,pc,lN,pe,bz,dK,fB,<-bS]
theorem agG:MtM fX yS:=by intro a h k h1 h2;rw[Ng]at h2;simp (disch:=omega) only[yS,ab,Fm.top _ h.2.2.2];rw[aam,Ng];refine congrArg some (Prod.ext (by simp only;omega) ?_);first|rfl|simp only[pz,uP,py,uQ,lO,pc,lN,pe,bz,dK,fB,<-bS]
theorem aeX:W7 (.sl kH) Cn:=Mo (e:=kH) (T:=wW (λ_ y _ z=>some (y,z))) (f:=cJ) (.pair (.int _) (.pair (.int _) (.sl (e:=(.int .i64)) gU))) lL ⟨bV,⟨bV,Fm⟩⟩ (λl k i nx=>by kernel_rfl)
theorem EG (a:bA):dj fD a=(0+(0+(0+0)))+(dj fX a.2.1+(dj (.sl kH) a.2.2.1+(0))):=rfl
theorem OW (a:bA)(k:Int):Gk fD a k=(a.1,Gk fX a.2.1 (k),Gk (.sl kH) a.2.2.1 (k+((dj fX a.2.1:Nat):Int)),a.2.2.2):=by simp only[pz,uP,py,uQ,lO,pc,lN,pe,bz,dK,fB,<-bS]
theorem YN:MtM fD sv:=by intro a h k h1 h2;rw[EG]at h2;simp (disch:=omega) only[sv,ab,agG _ h.2.1,aeX.top _ h.2.2.1];rw[OW,EG];refine congrArg some (Prod.ext (by simp only;omega) ?_);first|rfl|simp only[pz,uP,py,uQ,lO,pc,lN,pe,bz,dK,fB,<-bS]
theorem VR:W7 (.sl cW) wV:=Mo (e:=cW) (T:=rj (λ_ y _ z=>some (y,z))) (f:=cJ) (.pair (.pair (.int _) (.pair (.int _) (.pair (.int _) (.int _)))) (.pair (.pair (.int _) (.pair (.int _) (.int _))) (.pair (.pair (.int _) (.pair (.int _) (.int _))) (.pair (.pair (.pair (.int _) (.pair (.int _) (.pair (.int _) (.pair (.int _) (.pair (.int _) (.pair (.int _) (.pair (.int _) (.pair (.int _) (.pair (.int _) (.pair (.int _) (.pair (.int _) (.pair (.int _) (.pair (.int _) (.pair (.int _) (.pair (.int _) .str))))))))))))))) (.pair (.int _) (.int _))) (.pair .bool (.int _)))))) lL ⟨⟨bV,⟨bV,⟨bV,bV⟩⟩⟩,⟨⟨bV,⟨bV,bV⟩⟩,⟨⟨bV,⟨bV,bV⟩⟩,⟨⟨⟨bV,⟨bV,⟨bV,⟨bV,⟨bV,⟨bV,⟨bV,⟨bV,⟨bV,⟨bV,⟨bV,⟨bV,⟨bV,⟨bV,⟨bV,bV⟩⟩⟩⟩⟩⟩⟩⟩⟩⟩⟩⟩⟩⟩⟩,⟨bV,bV⟩⟩,⟨bV,bV⟩⟩⟩⟩⟩ (λl k i nx=>by kernel_rfl)
theorem aeV:W7 (.sl fX) Cl:=Mo (e:=fX) (T:=wT (λ_ y _ z=>some (y,z))) (f:=cJ) (.pair (.int _) (.pair (.int _) (.pair (.int _) (.sl (e:=(.int .i64)) gU)))) lL ⟨bV,⟨bV,⟨bV,Fm⟩⟩⟩ (λl k i nx=>by kernel_rfl)
theorem YH:W7 (.sl fw) yf:=Mo (e:=fw) (T:=tq (λ_ y _ z=>some (y,z))) (f:=cJ) (.pair (.int _) (.pair (.int _) (.pair (.int _) (.pair (.int _) (.pair .bool .bool))))) lL ⟨bV,⟨bV,⟨bV,⟨bV,⟨bV,bV⟩⟩⟩⟩⟩ (λl k i nx=>by kernel_rfl)
theorem aeU:W7 (.sl .bool) Ck:=by
 refine Tw (e:=.bool) (T:=mm (λ_ y _ z=>some (y,z))) (λl i hi k nx h1 h2 h3 hx=>?_) (λl k nx=>?_)
 ·try simp only[jq,lW,jo,lY,bz,cO,<-bS]at h2
  simp only[mm];rw[jP];simp (disch:=omega) only[af,aX hi,ab,oA,aH,ei,ay,aj,aF,ne3,lL];try simp only[Dr,Lw,HS,Lx,jq,lW,jo,lY,bz,cO,<-bS]
 simp only[mm];rw[gq];rfl
theorem Hz (a:Filter):dj jC a=0+(0+(dj (.sl (.int .i64)) a.2.2)):=rfl
theorem RL (a:Filter)(k:Int):Gk jC a k=(a.1,a.2.1,Gk (.sl (.int .i64)) a.2.2 (k)):=by simp only[pz,uP,py,uQ,lO,pc,lN,pe,bz,dK,fB,<-bS]
theorem ab6:MtM jC uL:=by intro a h k h1 h2;rw[Hz]at h2;simp (disch:=omega) only[uL,ab,Fm.top _ h.2.2];rw[RL,Hz];refine congrArg some (Prod.ext (by simp only;omega) ?_);first|rfl|simp only[pz,uP,py,uQ,lO,pc,lN,pe,bz,dK,fB,<-bS]
theorem aeW:W7 (.sl qe) Cm:=Mo (e:=qe) (T:=wU (λ_ y _ z=>some (y,z))) (f:=cJ) (.pair (.int _) (.pair (.int _) (.pair (.int _) (.pair (.int _) (.pair (.int _) (.pair (.int _) (.pair (.int _) (.pair (.int _) (.int _))))))))) lL ⟨bV,⟨bV,⟨bV,⟨bV,⟨bV,⟨bV,⟨bV,⟨bV,bV⟩⟩⟩⟩⟩⟩⟩⟩ (λl k i nx=>by kernel_rfl)
theorem aeY:W7 (.sl kW) Co:=Mo (e:=kW) (T:=wX (λ_ y _ z=>some (y,z))) (f:=cJ) (.pair (.int _) (.pair (.pair (.int _) (.pair (.int _) (.pair (.int _) (.pair (.int _) (.int _))))) (.int _))) lL ⟨bV,⟨⟨bV,⟨bV,⟨bV,⟨bV,bV⟩⟩⟩⟩,bV⟩⟩ (λl k i nx=>by kernel_rfl)
theorem TA:MtM (.sl kW) oM:=by intro a h k h1 h2;simp (disch:=omega) only[oM,ab,aeY.top a h]
theorem HA (a:gJ):dj uq a=0+(dj (.sl (.int .i64)) a.2):=rfl
theorem RM (a:gJ)(k:Int):Gk uq a k=(a.1,Gk (.sl (.int .i64)) a.2 (k)):=by simp only[pz,uP,py,uQ,lO,pc,lN,pe,bz,dK,fB,<-bS]
theorem ab7:MtM uq uN:=by intro a h k h1 h2;rw[HA]at h2;simp (disch:=omega) only[uN,ab,Fm.top _ h.2];rw[RM,HA];refine congrArg some (Prod.ext (by simp only;omega) ?_);first|rfl|simp only[pz,uP,py,uQ,lO,pc,lN,pe,bz,dK,fB,<-bS]
theorem CY (a:dW):dj fS a=dj (.sl qe) a.1+(dj (.sl kW) a.2.1+(dj uq a.2.2)):=rfl
theorem Mm (a:dW)(k:Int):Gk fS a k=(Gk (.sl qe) a.1 (k),Gk (.sl kW) a.2.1 (k+((dj (.sl qe) a.1:Nat):Int)),Gk uq a.2.2 (k+((dj (.sl qe) a.1:Nat):Int)+((dj (.sl kW) a.2.1:Nat):Int))):=by simp only[pz,uP,py,uQ,lO,pc,lN,pe,bz,dK,fB,<-bS]
theorem VZ:MtM fS qu:=by intro a h k h1 h2;rw[CY]at h2;simp (disch:=omega) only[qu,ab,aeW.top _ h.1,TA _ h.2.1,ab7 _ h.2.2];rw[Mm,CY];refine congrArg some (Prod.ext (by simp only;omega) ?_);first|rfl|simp only[pz,uP,py,uQ,lO,pc,lN,pe,bz,dK,fB,<-bS]
theorem YG:W7 (.sl dE) ye:=Mo (e:=dE) (T:=tp (λ_ y _ z=>some (y,z))) (f:=cJ) (.pair (.pair (.int _) (.pair (.int _) (.pair (.int _) (.pair (.int _) (.int _))))) (.pair (.int _) (.pair .str .bool))) lL ⟨⟨bV,⟨bV,⟨bV,⟨bV,bV⟩⟩⟩⟩,⟨bV,⟨bV,bV⟩⟩⟩ (λl k i nx=>by kernel_rfl)
theorem Nf (a:Host):dj cK a=dj (.sl .str) a.1+(dj (.sl di) a.2.1+(dj fD a.2.2.1+(dj (.sl cW) a.2.2.2.1+(dj (.sl fX) a.2.2.2.2.1+(dj (.sl fw) a.2.2.2.2.2.1+(dj (.sl .bool) a.2.2.2.2.2.2.1+(dj jC a.2.2.2.2.2.2.2.1+(dj fS a.2.2.2.2.2.2.2.2.1+(dj (.sl dE) a.2.2.2.2.2.2.2.2.2.1+(0+(dj (.sl .str) a.2.2.2.2.2.2.2.2.2.2.2.1+(dj (.sl (.int .i64)) a.2.2.2.2.2.2.2.2.2.2.2.2.1+(dj (.sl (.int .i64)) a.2.2.2.2.2.2.2.2.2.2.2.2.2.1+((0+(0+(0+(0+0)))))))))))))))))):=rfl
theorem aal (a:Host)(k:Int):Gk cK a k=(Gk (.sl .str) a.1 (k),Gk (.sl di) a.2.1 (k+((dj (.sl .str) a.1:Nat):Int)),Gk fD a.2.2.1 (k+((dj (.sl .str) a.1:Nat):Int)+((dj (.sl di) a.2.1:Nat):Int)),Gk (.sl cW) a.2.2.2.1 (k+((dj (.sl .str) a.1:Nat):Int)+((dj (.sl di) a.2.1:Nat):Int)+((dj fD a.2.2.1:Nat):Int)),Gk (.sl fX) a.2.2.2.2.1 (k+((dj (.sl .str) a.1:Nat):Int)+((dj (.sl di) a.2.1:Nat):Int)+((dj fD a.2.2.1:Nat):Int)+((dj (.sl cW) a.2.2.2.1:Nat):Int)),Gk (.sl fw) a.2.2.2.2.2.1 (k+((dj (.sl .str) a.1:Nat):Int)+((dj (.sl di) a.2.1:Nat):Int)+((dj fD a.2.2.1:Nat):Int)+((dj (.sl cW) a.2.2.2.1:Nat):Int)+((dj (.sl fX) a.2.2.2.2.1:Nat):Int)),Gk (.sl .bool) a.2.2.2.2.2.2.1 (k+((dj (.sl .str) a.1:Nat):Int)+((dj (.sl di) a.2.1:Nat):Int)+((dj fD a.2.2.1:Nat):Int)+((dj (.sl cW) a.2.2.2.1:Nat):Int)+((dj (.sl fX) a.2.2.2.2.1:Nat):Int)+((dj (.sl fw) a.2.2.2.2.2.1:Nat):Int)),Gk jC a.2.2.2.2.2.2.2.1 (k+((dj (.sl .str) a.1:Nat):Int)+((dj (.sl di) a.2.1:Nat):Int)+((dj fD a.2.2.1:Nat):Int)+((dj (.sl cW) a.2.2.2.1:Nat):Int)+((dj (.sl fX) a.2.2.2.2.1:Nat):Int)+((dj (.sl fw) a.2.2.2.2.2.1:Nat):Int)+((dj (.sl .bool) a.2.2.2.2.2.2.1:Nat):Int)),Gk fS a.2.2.2.2.2.2.2.2.1 (k+((dj (.sl .str) a.1:Nat):Int)+((dj (.sl di) a.2.1:Nat):Int)+((dj fD a.2.2.1:Nat):Int)+((dj (.sl cW) a.2.2.2.1:Nat):Int)+((dj (.sl fX) a.2.2.2.2.1:Nat):Int)+((dj (.sl fw) a.2.2.2.2.2.1:Nat):Int)+((dj (.sl .bool) a.2.2.2.2.2.2.1:Nat):Int)+((dj jC a.2.2.2.2.2.2.2.1:Nat):Int)),Gk (.sl dE) a.2.2.2.2.2.2.2.2.2.1 (k+((dj (.sl .str) a.1:Nat):Int)+((dj (.sl di) a.2.1:Nat):Int)+((dj fD a.2.2.1:Nat):Int)+((dj (.sl cW) a.2.2.2.1:Nat):Int)+((dj (.sl fX) a.2.2.2.2.1:Nat):Int)+((dj (.sl fw) a.2.2.2.2.2.1:Nat):Int)+((dj (.sl .bool) a.2.2.2.2.2.2.1:Nat):Int)+((dj jC a.2.2.2.2.2.2.2.1:Nat):Int)+((dj fS a.2.2.2.2.2.2.2.2.1:Nat):Int)),a.2.2.2.2.2.2.2.2.2.2.1,Gk (.sl .str) a.2.2.2.2.2.2.2.2.2.2.2.1 (k+((dj (.sl .str) a.1:Nat):Int)+((dj (.sl di) a.2.1:Nat):Int)+((dj fD a.2.2.1:Nat):Int)+((dj (.sl cW) a.2.2.2.1:Nat):Int)+((dj (.sl fX) a.2.2.2.2.1:Nat):Int)+((dj (.sl fw) a.2.2.2.2.2.1:Nat):Int)+((dj (.sl .bool) a.2.2.2.2.2.2.1:Nat):Int)+((dj jC a.2.2.2.2.2.2.2.1:Nat):Int)+((dj fS a.2.2.2.2.2.2.2.2.1:Nat):Int)+((dj (.sl dE) a.2.2.2.2.2.2.2.2.2.1:Nat):Int)),Gk (.sl (.int .i64)) a.2.2.2.2.2.2.2.2.2.2.2.2.1 (k+((dj (.sl .str) a.1:Nat):Int)+((dj (.sl di) a.2.1:Nat):Int)+((dj fD a.2.2.1:Nat):Int)+((dj (.sl cW) a.2.2.2.1:Nat):Int)+((dj (.sl fX) a.2.2.2.2.1:Nat):Int)+((dj (.sl fw) a.2.2.2.2.2.1:Nat):Int)+((dj (.sl .bool) a.2.2.2.2.2.2.1:Nat):Int)+((dj jC a.2.2.2.2.2.2.2.1:Nat):Int)+((dj fS a.2.2.2.2.2.2.2.2.1:Nat):Int)+((dj (.sl dE) a.2.2.2.2.2.2.2.2.2.1:Nat):Int)+((dj (.sl .str) a.2.2.2.2.2.2.2.2.2.2.2.1:Nat):Int)),Gk (.sl (.int .i64)) a.2.2.2.2.2.2.2.2.2.2.2.2.2.1 (k+((dj (.sl .str) a.1:Nat):Int)+((dj (.sl di) a.2.1:Nat):Int)+((dj fD a.2.2.1:Nat):Int)+((dj (.sl cW) a.2.2.2.1:Nat):Int)+((dj (.sl fX) a.2.2.2.2.1:Nat):Int)+((dj (.sl fw) a.2.2.2.2.2.1:Nat):Int)+((dj (.sl .bool) a.2.2.2.2.2.2.1:Nat):Int)+((dj jC a.2.2.2.2.2.2.2.1:Nat):Int)+((dj fS a.2.2.2.2.2.2.2.2.1:Nat):Int)+((dj (.sl dE) a.2.2.2.2.2.2.2.2.2.1:Nat):Int)+((dj (.sl .str) a.2.2.2.2.2.2.2.2.2.2.2.1:Nat):Int)+((dj (.sl (.int .i64)) a.2.2.2.2.2.2.2.2.2.2.2.2.1:Nat):Int)),a.2.2.2.2.2.2.2.2.2.2.2.2.2.2):=by simp only[pz,uP,py,uQ,lO,pc,lN,pe,bz,dK,fB,<-bS]
theorem aan:MtM cK tP:=by intro a h k h1 h2;rw[Nf]at h2;simp (disch:=omega) only[tP,ab,RN _ h.1,Jp.top _ h.1,VQ.top _ h.2.1,YN _ h.2.2.1,VR.top _ h.2.2.2.1,aeV.top _ h.2.2.2.2.1,YH.top _ h.2.2.2.2.2.1,aeU.top _ h.2.2.2.2.2.2.1,ab6 _ h.2.2.2.2.2.2.2.1,VZ _ h.2.2.2.2.2.2.2.2.1,YG.top _ h.2.2.2.2.2.2.2.2.2.1,RN _ h.2.2.2.2.2.2.2.2.2.2.2.1,Jp.top _ h.2.2.2.2.2.2.2.2.2.2.2.1,Fm.top _ h.2.2.2.2.2.2.2.2.2.2.2.2.1,Fm.top _ h.2.2.2.2.2.2.2.2.2.2.2.2.2.1];rw[aal,Nf];refine congrArg some (Prod.ext (by simp only;omega) ?_);first|rfl|simp only[pz,uP,py,uQ,lO,pc,lN,pe,bz,dK,fB,<-bS]
theorem EN:W6 (.sl (.int .i64)) gT:=by
 refine Tv (e:=(.int .i64)) (H:=λv=>nJ (λy _=>some y) (λ_ y _=>some y) v 0) (λl i hi x k nx hm h1 h2 h3 hx=>?_) (λl k nx=>?_)
 ·try simp only[jq,lW,jo,lY,bz,cO,<-bS]at h2
  try simp only[Dr,Lw,HS,Lx,jq,lW,jo,lY,bz,cO,<-bS]at hm
  simp only[nJ];rw[jP];simp (disch:=omega) only[af,aX hi,hm,ab,bne_self_eq_false,fY,ai,ae,aj,aF,ne3,rM,lL];try simp only[jq,lW,jo,lY,bz,cO,<-bS]
 simp only[nJ];rw[gq];rfl
theorem Jd:W6 (.sl .str) so:=by
 refine Tv (e:=.str) (H:=λv=>kg (λy _=>some y) (λ_ y _=>some y) v 0) (λl i hi x k nx hm h1 h2 h3 hx=>?_) (λl k nx=>?_)
 ·try simp only[jq,lW,jo,lY,bz,cO,<-bS]at h2
  try simp only[Dr,Lw,HS,Lx,jq,lW,jo,lY,bz,cO,<-bS]at hm
  simp only[kg];rw[jP];simp (disch:=omega) only[af,aX hi,hm,ab,bne_self_eq_false,fY,ai,ae,aj,aF,ne3,rM,lL];try simp only[jq,lW,jo,lY,bz,cO,<-bS]
 simp only[kg];rw[gq];rfl
theorem Rl:MtH (.sl .str) uJ:=by intro a h k h1 h2;simp (disch:=omega) only[uJ,ab,Jd.top a h,rM,ae]
theorem Vb:W6 (.sl di) wM:=Mn (e:=di) (H:=λv=>rf (λy _=>some y) (λ_ y _=>some y) v 0) (bad:=λ_ i k=>some (-1)) (f:=cJ) (.pair (.int _) (.pair (.int _) (.pair (.int _) .bool))) lL ⟨bV,⟨bV,⟨bV,bV⟩⟩⟩ (λl k i nx=>by kernel_rfl)
theorem agp:MtH fX yR:=by intro a h k h1 h2;rw[Ng]at h2;rw[aam];simp (disch:=omega) only[yR,ab,EN.top _ h.2.2.2,rM,ae];rw[Ng];refine congrArg some (by omega)
theorem ad2:W6 (.sl kH) Ci:=Mn (e:=kH) (H:=λv=>wQ (λy _=>some y) (λ_ y _=>some y) v 0) (bad:=λ_ i k=>some (-1)) (f:=cJ) (.pair (.int _) (.pair (.int _) (.sl (e:=(.int .i64)) gT))) lL ⟨bV,⟨bV,EN⟩⟩ (λl k i nx=>by kernel_rfl)
theorem Yb:MtH fD sq:=by intro a h k h1 h2;rw[EG]at h2;rw[OW];simp (disch:=omega) only[sq,ab,agp _ h.2.1,ad2.top _ h.2.2.1,rM,ae];rw[EG];refine congrArg some (by omega)
theorem Vc:W6 (.sl cW) wP:=Mn (e:=cW) (H:=λv=>rh (λy _=>some y) (λ_ y _=>some y) v 0) (bad:=λ_ i k=>some (-1)) (f:=cJ) (.pair (.pair (.int _) (.pair (.int _) (.pair (.int _) (.int _)))) (.pair (.pair (.int _) (.pair (.int _) (.int _))) (.pair (.pair (.int _) (.pair (.int _) (.int _))) (.pair (.pair (.pair (.int _) (.pair (.int _) (.pair (.int _) (.pair (.int _) (.pair (.int _) (.pair (.int _) (.pair (.int _) (.pair (.int _) (.pair (.int _) (.pair (.int _) (.pair (.int _) (.pair (.int _) (.pair (.int _) (.pair (.int _) (.pair (.int _) .str))))))))))))))) (.pair (.int _) (.int _))) (.pair .bool (.int _)))))) lL ⟨⟨bV,⟨bV,⟨bV,bV⟩⟩⟩,⟨⟨bV,⟨bV,bV⟩⟩,⟨⟨bV,⟨bV,bV⟩⟩,⟨⟨⟨bV,⟨bV,⟨bV,⟨bV,⟨bV,⟨bV,⟨bV,⟨bV,⟨bV,⟨bV,⟨bV,⟨bV,⟨bV,⟨bV,⟨bV,bV⟩⟩⟩⟩⟩⟩⟩⟩⟩⟩⟩⟩⟩⟩⟩,⟨bV,bV⟩⟩,⟨bV,bV⟩⟩⟩⟩⟩ (λl k i nx=>by kernel_rfl)
theorem ad0:W6 (.sl fX) Cg:=Mn (e:=fX) (H:=λv=>wN (λy _=>some y) (λ_ y _=>some y) v 0) (bad:=λ_ i k=>some (-1)) (f:=cJ) (.pair (.int _) (.pair (.int _) (.pair (.int _) (.sl (e:=(.int .i64)) gT)))) lL ⟨bV,⟨bV,⟨bV,EN⟩⟩⟩ (λl k i nx=>by kernel_rfl)
theorem X3:W6 (.sl fw) yd:=Mn (e:=fw) (H:=λv=>tn (λy _=>some y) (λ_ y _=>some y) v 0) (bad:=λ_ i k=>some (-1)) (f:=cJ) (.pair (.int _) (.pair (.int _) (.pair (.int _) (.pair (.int _) (.pair .bool .bool))))) lL ⟨bV,⟨bV,⟨bV,⟨bV,⟨bV,bV⟩⟩⟩⟩⟩ (λl k i nx=>by kernel_rfl)
theorem adZ:W6 (.sl .bool) Cf:=by
 refine Tv (e:=.bool) (H:=λv=>ml (λy _=>some y) (λ_ y _=>some y) v 0) (λl i hi x k nx hm h1 h2 h3 hx=>?_) (λl k nx=>?_)
 ·try simp only[jq,lW,jo,lY,bz,cO,<-bS]at h2
  try simp only[Dr,Lw,HS,Lx,jq,lW,jo,lY,bz,cO,<-bS]at hm
  simp only[ml];rw[jP];simp (disch:=omega) only[af,aX hi,hm,ab,bne_self_eq_false,fY,ai,ae,aj,aF,ne3,rM,lL];try simp only[jq,lW,jo,lY,bz,cO,<-bS]
 simp only[ml];rw[gq];rfl
theorem abn:MtH jC uI:=by intro a h k h1 h2;rw[Hz]at h2;rw[RL];simp (disch:=omega) only[uI,ab,EN.top _ h.2.2,rM,ae];rw[Hz];refine congrArg some (by omega)
theorem ad1:W6 (.sl qe) Ch:=Mn (e:=qe) (H:=λv=>wO (λy _=>some y) (λ_ y _=>some y) v 0) (bad:=λ_ i k=>some (-1)) (f:=cJ) (.pair (.int _) (.pair (.int _) (.pair (.int _) (.pair (.int _) (.pair (.int _) (.pair (.int _) (.pair (.int _) (.pair (.int _) (.int _))))))))) lL ⟨bV,⟨bV,⟨bV,⟨bV,⟨bV,⟨bV,⟨bV,⟨bV,bV⟩⟩⟩⟩⟩⟩⟩⟩ (λl k i nx=>by kernel_rfl)
theorem ad3:W6 (.sl kW) Cj:=Mn (e:=kW) (H:=λv=>wR (λy _=>some y) (λ_ y _=>some y) v 0) (bad:=λ_ i k=>some (-1)) (f:=cJ) (.pair (.int _) (.pair (.pair (.int _) (.pair (.int _) (.pair (.int _) (.pair (.int _) (.int _))))) (.int _))) lL ⟨bV,⟨⟨bV,⟨bV,⟨bV,⟨bV,bV⟩⟩⟩⟩,bV⟩⟩ (λl k i nx=>by kernel_rfl)
theorem Tb:MtH (.sl kW) oL:=by intro a h k h1 h2;simp (disch:=omega) only[oL,ab,ad3.top a h,rM,ae]
theorem abo:MtH uq uK:=by intro a h k h1 h2;rw[HA]at h2;rw[RM];simp (disch:=omega) only[uK,ab,EN.top _ h.2,rM,ae];rw[HA];refine congrArg some (by omega)
theorem Vp:MtH fS qt:=by intro a h k h1 h2;rw[CY]at h2;rw[Mm];simp (disch:=omega) only[qt,ab,ad1.top _ h.1,Tb _ h.2.1,abo _ h.2.2,rM,ae];rw[CY];refine congrArg some (by omega)
theorem X2:W6 (.sl dE) yc:=Mn (e:=dE) (H:=λv=>tk (λy _=>some y) (λ_ y _=>some y) v 0) (bad:=λ_ i k=>some (-1)) (f:=cJ) (.pair (.pair (.int _) (.pair (.int _) (.pair (.int _) (.pair (.int _) (.int _))))) (.pair (.int _) (.pair .str .bool))) lL ⟨⟨bV,⟨bV,⟨bV,⟨bV,bV⟩⟩⟩⟩,⟨bV,⟨bV,bV⟩⟩⟩ (λl k i nx=>by kernel_rfl)
theorem ago:MtH cK pP:=by intro a h k h1 h2;rw[Nf]at h2;rw[aal];simp (disch:=omega) only[pP,ab,Rl _ h.1,Jd.top _ h.1,Vb.top _ h.2.1,Yb _ h.2.2.1,Vc.top _ h.2.2.2.1,ad0.top _ h.2.2.2.2.1,X3.top _ h.2.2.2.2.2.1,adZ.top _ h.2.2.2.2.2.2.1,abn _ h.2.2.2.2.2.2.2.1,Vp _ h.2.2.2.2.2.2.2.2.1,X2.top _ h.2.2.2.2.2.2.2.2.2.1,Rl _ h.2.2.2.2.2.2.2.2.2.2.2.1,Jd.top _ h.2.2.2.2.2.2.2.2.2.2.2.1,EN.top _ h.2.2.2.2.2.2.2.2.2.2.2.2.1,EN.top _ h.2.2.2.2.2.2.2.2.2.2.2.2.2.1,rM,ae];rw[Nf];refine congrArg some (by omega)
end Go.Pu
end
namespace Go.Pu
open Go.Dn
set_option linter.unusedSimpArgs false
set_option linter.unusedVariables false
noncomputable section
theorem XJ (a:Host)(x:Act)(ha:th cK a)(Uq:th Sx x):wI a x=some true:=by
 unfold wI;refine(ag4 a ha).use (by omega) (by omega) λhl=>?_;refine(aiw x Uq).use (by omega) (by omega) λAq=>?_;have hA:bu 1048576 cK a:=H8 (by omega);have hX:bu 1048576 Sx x:=H8 (by omega);have hz:CU 1048576 a:=CU.of (by omega);have hxx:x.2.2.2.2.1.length<=10^9:=aE hX.2.2.2.2.1 (by omega);have hs:=acG a x (hz.mono) hxx;have hi:=abu a x (hz.mono) hxx;have c1:dj cK a<=Qf 1048576 cK:=aE Nh (lX hA);have b1:Qf 1048576 cK<=900000000000000:=by decide
 have hR:bu 1693576 cK (IZ a x).1/\dj cK (IZ a x).1<=900000000000000:=by
  cases hb:fF a with
  |false=>
   have:IZ a x=(a, -1):=by unfold IZ;rw[hb];rfl
   rw[this];exact⟨hA.mono,by show dj cK a<=_;omega⟩
  |true=>have g:=adm (by omega) x hz (adP hb);exact⟨g.1.z,aE (agh g.1.z g.2) (by omega)⟩
 generalize IZ a x=q at hs hi hR;have hR1:=hR.1;have c2:=hR.2;have m1:=aan a (hA.mono) 1 (by omega) (by omega);have m2:=aan q.1 (hR1.mono) 1 (by omega) (by omega);have m3:∀t,t=Gk cK q.1 1->pP t 1=some (1+(dj cK q.1:Int)):=by rintro _ rfl;exact ago q.1 (hR1.mono) 1 (by omega) (by omega)
 simp (disch:=omega) only[aha a hA,aix x hX,ab,hs,hi,ZX q.1 (hR1.mono),ZX a (hA.mono),fY,bne_self_eq_false,ai,ae,m1,m2,rM];rw[m3];simp (disch:=omega) only[ab,rM,ae,bne_self_eq_false];rfl
end
end Go.Pu
