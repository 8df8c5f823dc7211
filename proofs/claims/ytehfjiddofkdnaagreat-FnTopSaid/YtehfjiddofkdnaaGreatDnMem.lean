import Derived.Test.YtehfjiddofkdnaaGreatDnCells
import Derived.Laws.AppendOwn
/- The model's own operations on memory, on the blocks that states speak of. -/
open Bool renaming true->O
open Option renaming none->W,some->I
namespace Go.Dn
open Go.RowKit
variable {Y:Array Value} {X:Nat×Nat} {P:Program} {S:Shape} {T:TypeId}
theorem sv b o n:(⟨b,o,W⟩:Addr).add n=⟨b,o+n,W⟩:=by unfold Addr.add;split;rename_i h;subst h;rfl;rfl
def BZ (w:World)b Y T X:={w with heap:=w.heap.setIfInBounds b (.cells Y T X)}
theorem qa w b Y T X:(BZ w b Y T X).heap.size=w.heap.size:=by simp[BZ]
theorem EU {w b}(h:b<w.heap.size):(BZ w b Y T X).heap[b]?=I (.cells Y T X):=by simp[BZ,h]
theorem rm {w b a}(h:a≠b):(BZ w b Y T X).heap[a]?=w.heap[a]?:=by simp only[BZ,Array.getElem?_setIfInBounds];rw[aK (cI h)]
theorem qB {w:World}{b o}(h:w.heap[b]?=I o):b<w.heap.size:=(Array.getElem?_eq_some_iff.1 h).1
theorem ac1 {w b o}(h:w.heap[b]?=I (.cells Y T X))v: w.setCell ⟨b,o,W⟩ v=BZ w b (Y.setIfInBounds o v) T X:=by have c:=qB h;simp only[World.setCell,BZ];congr 1;apply Array.ext_getElem?;intro i;simp only[Array.getElem?_modify,Array.getElem?_setIfInBounds];by_cases a:b=i;subst a;have e:=(Array.getElem?_eq_some_iff.1 h).2;simp[c,e];simp[a]
theorem aoo w b Y a T X:BZ (BZ w b Y T X) b a T X=BZ w b a T X:=by simp[BZ]
theorem asN {w b}(h:w.heap[b]?=I (.cells Y T X)):BZ w b Y T X=w:=by have e:=Array.getElem?_eq_some_iff.1 h;cases w with|mk heap tape drawn c output=>simp only[BZ];congr 1;apply Array.ext_getElem?;intro i;simp only[Array.getElem?_setIfInBounds];by_cases a:b=i;subst a;simp at h⊢;rw[h];simp[e.1];simp[a]
def gv (Y:Array Value)(o:Nat):oz->Array Value
 |[]=>Y
 |v::r=>gv (Y.setIfInBounds o v) (o+1) r
theorem lr a:∀(Y:Array Value)(o:Nat),(gv Y o a).size=Y.size:=by induction a with|nil=>intro Y o;rfl|cons v r b=>intro Y o;simp[gv,b]
theorem Dk a:∀(Y:Array Value)(o:Nat),o+a.length<=Y.size-> (gv Y o a).toList=Y.toList.take o++a++Y.toList.drop (o+a.length):=by
 induction a with
 |nil=>intro Y o _;simp[gv]
 |cons v r g=>
  intro Y o h;simp only[bj]at h;rw[gv,g _ _ (by simp;omega)];have f:o<Y.toList.length:=by simp;omega
  have e:(Y.setIfInBounds o v).toList=Y.toList.take o++(v::Y.toList.drop (o+1)):=by rw[Array.toList_setIfInBounds,List.set_eq_take_append_cons_drop,aI f]
  have b:(Y.toList.take o).length=o:=by rw[bp];omega
  rw[e];have c:(Y.toList.take o++(v::Y.toList.drop (o+1))).take (o+1)=Y.toList.take o++[v]:=by rw[List.take_append,b,cd J];simp
  have d:(Y.toList.take o++(v::Y.toList.drop (o+1))).drop (o+1+r.length)=Y.toList.drop (o+(r.length+1)):=by rw[List.drop_append,b,dz J];have:o+1+r.length-o=r.length+1:=J;rw[this,List.drop_succ_cons,fM];simp only[bF];congr 1;omega
  rw[c,d];simp
theorem DX (P:Program)(b a:Nat)(T:TypeId)(X:Nat×Nat):∀(c:oz)(i:Nat)(w:World)(Y:Array Value),w.heap[b]?=I (.cells Y T X)->wE Y X->
 a+i+c.length<=Y.size->(∀v∈c,v.oneCell'=O)->(storeCells ⟨b,a,W⟩ c i).run P w=.ok () (BZ w b (gv Y (a+i) c) T X)
 |[],i,w,Y,h,_,_,_=>by simp only[storeCells,gv,Sem.run_pure,asN h]
 |v::c,i,w,Y,h,e,l,d=>by
  simp only[bj]at l;have f:w.cell? ⟨b,a+i,W⟩=I Y[a+i]:=by rw[vi h];exact Array.getElem?_eq_getElem J
  have g:w.frozen? ⟨b,a+i,W⟩=false:=by simp only[World.frozen?,h];have:=e (a+i) J;simpa using this
  have n:(store ⟨b,a+i,W⟩ v).run P w=.ok () (w.setCell ⟨b,a+i,W⟩ v):=by rw[run_store P w _ v .plain (d v aD),f];simp[g]
  have m:=qB h;have p:=DX P b a T X c (i+1) (BZ w b (Y.setIfInBounds (a+i) v) T X) (Y.setIfInBounds (a+i) v) (EU m) (λj k=>e j (by simpa using k)) (by simp;omega) (λu o=>d u (cy _ o));simp only[storeCells,Sem.run_bind,sv,n,Result.andThen_ok,ac1 h,p,aoo,gv];rfl
theorem F0 {w}(g:aoE P T S)b h n(o:n.length=S.ct.size)(s:∀j v,n[j]?=I v->w.cell? ⟨b,h+j,W⟩=I v):∃v,(loadVar T ⟨b,h,W⟩).run P w=.ok v w/\Cut S.agg v n:=by
 obtain⟨i,z,x,r,_⟩:=g.elem.info;cases c:S.agg with
 |true=>obtain⟨A,m,_⟩:=g.agg c;have p:=run_loadCells_list (P:=P) w ⟨b,h,W⟩ n (λj v y=>by rw[sv];exact s j v y);refine⟨.agg n.toArray,?_,by simp[Cut]⟩;simp only[loadVar,isAgg,sizeOf,typeInfo,underlying,Sem.run_bind,run_program,m,x,Result.andThen_ok,Sem.run_pure,r,<-o,p,dm,Sem.run_ite]
 |false=>
  have t:S.ct.size=1:=by cases f:S.ct with|pair a b=>have:=g.pair a b f;rw[c]at this;cases this|_=>rfl
  rw[t]at o;obtain⟨v,rfl⟩:=List.length_eq_one_iff.1 o;have l:=s 0 v rfl;simp only[eY]at l;have q:∃d,P.underlying T=I d/\(match d with| .struct _| .array _ _=>True|_=>False)=False:=by cases f:S.ct with|pair a b=>have:=g.pair a b f;rw[c]at this;cases this|int k=>exact⟨_,g.int k f c,rfl⟩|bool=>exact⟨_,g.bool f c,rfl⟩|str=>exact⟨_,g.str f c,rfl⟩|sl e=>obtain⟨B,m,_⟩:=g.sl e f c;exact⟨_,m,rfl⟩
  obtain⟨d,m,u⟩:=q;refine⟨v,?_,by simp[Cut]⟩;simp only[loadVar,isAgg,underlying,Sem.run_bind,run_program,m,Result.andThen_ok,Sem.run_pure];cases d<;>simp at u<;>simp[l]
theorem LR {w f}(m:aoE P T S)b a{v c g}(e:Cut g v c)(p:c.length=S.ct.size)(l:∀u∈c,u.oneCell'=O)(n:w.heap[b]?=I (.cells Y f X))(q:wE Y X)(h:a+c.length<=Y.size:=by omega): (storeVar T ⟨b,a,W⟩ v).run P w=.ok () (BZ w b (gv Y a c) f X):=by
 obtain⟨i,z,o,j,_⟩:=m.elem.info;have d:v.cells.toList=c:=by unfold Cut at e;cases g with|true=>simp at e;subst e;simp[Value.cells]|false=>simp at e;subst e;have:=l v aD;cases v<;>simp[Value.cells,Value.oneCell']at this⊢
 have k:v.cells.size=S.ct.size:=by rw[<-p,<-d];simp
 simp only[storeVar,sizeOf,typeInfo,Sem.run_bind,run_program,o,Result.andThen_ok,Sem.run_pure,j,k,ne_eq,not_true_eq_false,cY,d];have:=DX P b a f X c 0 w Y n q (by simpa using h) l;simpa using this
theorem kh.rQ {c v x p}(r:kh c v x p)(hs:x.RK=O):v.oneCell'=true:=by
 cases x with
 |int k n=>rw[r.1];rfl
 |bool b=>rw[r.1];rfl
 |str s=>rw[r.1];rfl
 |mP=>rw[r.1];rfl
 |fn f=>rw[r.1];rfl
 |ptr s l=>rw[r.1];rfl
 |un=>cases hs
 |bot=>cases hs
 |I7 g e y i l=>
  cases g with
  |own t=>exact r.elim
  |arg _=>obtain⟨_,b,o,rfl,_⟩:=r;rfl
  |loc m w=>obtain⟨_,b,o,rfl,_⟩:=r;rfl
  |nest _ _ _ _ _ _=>exact r.elim
  |part _ _ _ _=>exact r.elim
  |im _ _ _=>exact r.elim
 |sl g e A=>
  cases g with
  |own t=>obtain⟨⟨u,d,h⟩,_⟩:=r;simp at d;subst d;rcases h with⟨⟨_,rfl⟩,_⟩|⟨b,q,a,Y,T,X,j,rfl,_⟩<;>rfl
  |arg _=>obtain⟨_,u,d,h⟩:=r;simp at d;subst d;rcases h with⟨⟨z,rfl⟩,_⟩|⟨b,o,a,rfl,_⟩<;>rfl
  |loc m w=>obtain⟨_,_,⟨o,n,k,rfl,_⟩,_⟩:=r;rfl
  |nest _ _ _ _ _ _=>obtain⟨_,_,⟨o,n,k,rfl,_⟩,_⟩:=r;rfl
  |part _ _ _ _=>obtain⟨_,_,⟨o,n,k,rfl,_⟩,_⟩:=r;rfl
  |im _ _ _=>obtain⟨_,⟨k,_,b,q,a,Y,T,X,j,rfl,_⟩,_⟩:=r;rfl
theorem cv.rQ {c:RC}:∀{d:oz}{e:Z AC}{f:gw},cv c d e f->e.all AC.RK=O->∀v∈d,v.oneCell'=O
 |[],[],_,_,_,v,a=>by cases a
 |u::d,x::e,_,r,b,v,a=>by obtain⟨f1,f2,rfl,g,h⟩:=r;simp only[cC,af]at b;rcases bW.1 a with rfl|a;exact g.rQ b.1;exact cv.rQ h b.2 v a
 |[],_::_,_,r,_,_,_=>r.elim
 |_::_,[],_,r,_,_,_=>r.elim
theorem gX.rQ {hw:Nat->Nat}{w:World}:∀{e:CT}{d:oz}{x:e.D}{fp:gw},gX hw w e d x fp->∀v∈d,v.oneCell'=O
 | .int _,_,_,_,h,v,c=>by obtain⟨rfl,_⟩:=h;simp at c;subst c;rfl
 | .bool,_,_,_,h,v,c=>by obtain⟨rfl,_⟩:=h;simp at c;subst c;rfl
 | .str,_,_,_,h,v,c=>by obtain⟨rfl,_⟩:=h;simp at c;subst c;rfl
 | .sl _,_,_,_,h,v,c=>by obtain⟨u,rfl,h⟩:=h;simp at c;subst c;rcases h with⟨⟨_,rfl⟩,_⟩|⟨b,k,f,Y,T,X,g,rfl,_⟩<;>rfl
 | .pair a b,_,_,_,h,v,c=>by obtain⟨l,m,f1,f2,rfl,rfl,i,j⟩:=h;rcases aB.1 c with c|c;exact gX.rQ i v c;exact gX.rQ j v c
end Go.Dn
