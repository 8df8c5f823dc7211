import Derived.Test.YthllnaiaikjelaaGreatDnCells
import Derived.Laws.AppendOwn
/- The model's own operations on memory, on the blocks that states speak of. -/
namespace Go.Dn
open Go.RowKit
variable {arr:Array Value} {fr:Nat×Nat} {P:Program} {sh:Shape} {T:TypeId}
theorem pJ (b o n:Nat):(⟨b,o,none⟩:Addr).add n=⟨b,o+n,none⟩:=by unfold Addr.add;split;rename_i h;subst h;rfl;rfl
def zg (w:World)(b:Nat)(arr:Array Value)(T:TypeId)(fr:Nat×Nat):World:={w with heap:=w.heap.setIfInBounds b (.cells arr T fr)}
theorem nA (w:World)(b:Nat)(arr:Array Value)(T:TypeId)(fr:Nat×Nat):(zg w b arr T fr).heap.size=w.heap.size:=by simp[zg]
theorem CW {w:World}{b:Nat}(h:b<w.heap.size):(zg w b arr T fr).heap[b]?=some (.cells arr T fr):=by simp[zg,h]
theorem oT {w:World}{b b':Nat}(h:b'≠b):(zg w b arr T fr).heap[b']?=w.heap[b']?:=by simp only[zg,Array.getElem?_setIfInBounds];rw[aK (cW h)]
theorem og {w:World}{b:Nat}{o:Obj}(h:w.heap[b]?=some o):b<w.heap.size:=(Array.getElem?_eq_some_iff.1 h).1
theorem aaE {w:World}{b o:Nat}(h:w.heap[b]?=some (.cells arr T fr))(v:Value): w.setCell ⟨b,o,none⟩ v=zg w b (arr.setIfInBounds o v) T fr:=by have hb:=og h;simp only[World.setCell,zg];congr 1;apply Array.ext_getElem?;intro i;simp only[Array.getElem?_modify,Array.getElem?_setIfInBounds];by_cases hbi:b=i;subst hbi;have e:=(Array.getElem?_eq_some_iff.1 h).2;simp[hb,e];simp[hbi]
theorem akG (w:World)(b:Nat)(arr jS:Array Value)(T:TypeId)(fr:Nat×Nat):zg (zg w b arr T fr) b jS T fr=zg w b jS T fr:=by simp[zg]
theorem apg {w:World}{b:Nat}(h:w.heap[b]?=some (.cells arr T fr)):zg w b arr T fr=w:=by have e:=Array.getElem?_eq_some_iff.1 h;cases w with|mk heap tape drawn os output=>simp only[zg];congr 1;apply Array.ext_getElem?;intro i;simp only[Array.getElem?_setIfInBounds];by_cases hbi:b=i;subst hbi;simp at h⊢;rw[h];simp[e.1];simp[hbi]
def eX (arr:Array Value)(o:Nat):iU->Array Value
 |[]=>arr
 |v::r=>eX (arr.setIfInBounds o v) (o+1) r
theorem jq (vs:iU):∀(arr:Array Value)(o:Nat),(eX arr o vs).size=arr.size:=by induction vs with|nil=>intro arr o;rfl|cons v r ih=>intro arr o;simp[eX,ih]
theorem BC (vs:iU):∀(arr:Array Value)(o:Nat),o+vs.length<=arr.size-> (eX arr o vs).toList=arr.toList.take o++vs++arr.toList.drop (o+vs.length):=by
 induction vs with
 |nil=>intro arr o _;simp[eX]
 |cons v r ih=>
  intro arr o h;simp only[bH]at h;rw[eX,ih _ _ (by simp;omega)];have ho:o<arr.toList.length:=by simp;omega
  have e:(arr.setIfInBounds o v).toList=arr.toList.take o++(v::arr.toList.drop (o+1)):=by rw[Array.toList_setIfInBounds,List.set_eq_take_append_cons_drop,aM ho]
  have hl:(arr.toList.take o).length=o:=by rw[bm];omega
  rw[e];have h1:(arr.toList.take o++(v::arr.toList.drop (o+1))).take (o+1)=arr.toList.take o++[v]:=by rw[List.take_append,hl,bL (by omega)];simp
  have h2:(arr.toList.take o++(v::arr.toList.drop (o+1))).drop (o+1+r.length)=arr.toList.drop (o+(r.length+1)):=by
   rw[List.drop_append,hl,dj (by omega)];have:o+1+r.length-o=r.length+1:=by omega
   rw[this,List.drop_succ_cons,eL];simp only[bE];congr 1;omega
  rw[h1,h2];simp
theorem B9 (P:Program)(b off:Nat)(T:TypeId)(fr:Nat×Nat):∀(vs:iU)(i:Nat)(w:World)(arr:Array Value),w.heap[b]?=some (.cells arr T fr)->tk arr fr->
 off+i+vs.length<=arr.size->(∀v∈vs,v.oneCell'=true)->(storeCells ⟨b,off,none⟩ vs i).run P w=.ok () (zg w b (eX arr (off+i) vs) T fr)
 |[],i,w,arr,h,_,_,_=>by simp only[storeCells,eX,Sem.run_pure,apg h]
 |v::vs,i,w,arr,h,uG,hl,h1=>by
  simp only[bH]at hl;have hc:w.cell? ⟨b,off+i,none⟩=some arr[off+i]:=by rw[oU h];exact Array.getElem?_eq_getElem (by omega)
  have hf:w.frozen? ⟨b,off+i,none⟩=false:=by simp only[World.frozen?,h];have:=uG (off+i) (by omega);simpa using this
  have hs:(store ⟨b,off+i,none⟩ v).run P w=.ok () (w.setCell ⟨b,off+i,none⟩ v):=by rw[run_store P w _ v .plain (h1 v (by simp)),hc];simp[hf]
  have iG:=og h;have ih:=B9 P b off T fr vs (i+1) (zg w b (arr.setIfInBounds (off+i) v) T fr) (arr.setIfInBounds (off+i) v) (CW iG) (λj hj=>uG j (by simpa using hj)) (by simp;omega) (λu hu=>h1 u (dJ _ hu));simp only[storeCells,Sem.run_bind,pJ,hs,Result.andThen_ok,aaE h,ih,akG,eX];rfl
theorem Ef {w:World}(hT:akQ P T sh)(b off:Nat)(vs:iU)(hl:vs.length=sh.ct.size)(hc:∀j v,vs[j]?=some v->w.cell? ⟨b,off+j,none⟩=some v):∃v,(loadVar T ⟨b,off,none⟩).run P w=.ok v w/\Cut sh.agg v vs:=by
 obtain⟨i,z,hi,xp,_⟩:=hT.elem.info;cases TL:sh.agg with
 |true=>obtain⟨fs,hu,_⟩:=hT.agg TL;have hlc:=run_loadCells_list (P:=P) w ⟨b,off,none⟩ vs (λj v hv=>by rw[pJ];exact hc j v hv);refine⟨.agg vs.toArray,?_,by simp[Cut]⟩;simp only[loadVar,isAgg,sizeOf,typeInfo,underlying,Sem.run_bind,run_program,hu,hi,Result.andThen_ok,Sem.run_pure,xp,<-hl,hlc,cd,Sem.run_ite]
 |false=>
  have h1:sh.ct.size=1:=by cases Sv:sh.ct with|pair a b=>have:=hT.pair a b Sv;rw[TL]at this;cases this|_=>rfl
  rw[h1]at hl;obtain⟨v,rfl⟩:=List.length_eq_one_iff.1 hl;have E1:=hc 0 v rfl;simp only[dW]at E1;have hnu:∃d,P.underlying T=some d/\(match d with| .struct _| .array _ _=>True|_=>False)=False:=by cases Sv:sh.ct with|pair a b=>have:=hT.pair a b Sv;rw[TL]at this;cases this|int k=>exact⟨_,hT.int k Sv TL,rfl⟩|bool=>exact⟨_,hT.bool Sv TL,rfl⟩|str=>exact⟨_,hT.str Sv TL,rfl⟩|sl e=>obtain⟨te,hu,_⟩:=hT.sl e Sv TL;exact⟨_,hu,rfl⟩
  obtain⟨d,hu,hd⟩:=hnu;refine⟨v,?_,by simp[Cut]⟩;simp only[loadVar,isAgg,underlying,Sem.run_bind,run_program,hu,Result.andThen_ok,Sem.run_pure];cases d<;>simp at hd<;>simp[E1]
theorem KA {w:World}{T':TypeId}(hT:akQ P T sh)(b off:Nat){v:Value}{vs:iU}{g:Bool}(hv:Cut g v vs)(hl:vs.length=sh.ct.size)(h1:∀u∈vs,u.oneCell'=true)(hb:w.heap[b]?=some (.cells arr T' fr))(uG:tk arr fr)(iy:off+vs.length<=arr.size:=by omega): (storeVar T ⟨b,off,none⟩ v).run P w=.ok () (zg w b (eX arr off vs) T' fr):=by
 obtain⟨i,z,hi,xp,_⟩:=hT.elem.info;have Ig:v.cells.toList=vs:=by unfold Cut at hv;cases g with|true=>simp at hv;subst hv;simp[Value.cells]|false=>simp at hv;subst hv;have:=h1 v (by simp);cases v<;>simp[Value.cells,Value.oneCell']at this⊢
 have azX:v.cells.size=sh.ct.size:=by rw[<-hl,<-Ig];simp
 simp only[storeVar,sizeOf,typeInfo,Sem.run_bind,run_program,hi,Result.andThen_ok,Sem.run_pure,xp,azX,ne_eq,not_true_eq_false,cD,Ig];have:=B9 P b off T' fr vs 0 w arr hb uG (by simpa using iy) h1;simpa using this
theorem iA.pt {c:RC}{v:Value}{x:AC}{fp:ec}(r:iA c v x fp)(hs:x.Qy=true):v.oneCell'=true:=by
 cases x with
 |int k n=>rw[r.1];rfl
 |bool b=>rw[r.1];rfl
 |str s=>rw[r.1];rfl
 |kL=>rw[r.1];rfl
 |fn f=>rw[r.1];rfl
 |ptr s off=>rw[r.1];rfl
 |un=>cases hs
 |bot=>cases hs
 |Hy fl e y i off=>
  cases fl with
  |own t=>exact r.elim
  |arg _=>obtain⟨_,b,o,rfl,_⟩:=r;rfl
  |loc ep pv=>obtain⟨_,b,o,rfl,_⟩:=r;rfl
  |nest _ _ _ _ _ _=>exact r.elim
  |part _ _ _ _=>exact r.elim
  |fK _ _ _=>exact r.elim
 |sl fl e xs=>
  cases fl with
  |own t=>obtain⟨⟨u,hu,h⟩,_⟩:=r;simp at hu;subst hu;rcases h with⟨⟨_,rfl⟩,_⟩|⟨b,o0,cap,arr,T,fr,fps,rfl,_⟩<;>rfl
  |arg _=>obtain⟨_,u,hu,h⟩:=r;simp at hu;subst hu;rcases h with⟨⟨ad,rfl⟩,_⟩|⟨b,o,cap,rfl,_⟩<;>rfl
  |loc ep pv=>obtain⟨_,_,⟨o,n,k,rfl,_⟩,_⟩:=r;rfl
  |nest _ _ _ _ _ _=>obtain⟨_,_,⟨o,n,k,rfl,_⟩,_⟩:=r;rfl
  |part _ _ _ _=>obtain⟨_,_,⟨o,n,k,rfl,_⟩,_⟩:=r;rfl
  |fK _ _ _=>obtain⟨_,⟨k,_,b,o0,cap,arr,T,fr,fps,rfl,_⟩,_⟩:=r;rfl
theorem bD.pt {c:RC}:∀{vs:iU}{xs:ar AC}{fp:ec},bD c vs xs fp->xs.all AC.Qy=true->∀v∈vs,v.oneCell'=true
 |[],[],_,_,_,v,hv=>by cases hv
 |u::vs,x::xs,_,r,hs,v,hv=>by obtain⟨f1,f2,rfl,r1,r2⟩:=r;simp only[bV,ah]at hs;rcases cp.1 hv with rfl|hv;exact r1.pt hs.1;exact bD.pt r2 hs.2 v hv
 |[],_::_,_,r,_,_,_=>r.elim
 |_::_,[],_,r,_,_,_=>r.elim
theorem eS.pt {hw:Nat->Nat}{w:World}:∀{e:CT}{vs:iU}{x:e.D}{fp:ec},eS hw w e vs x fp->∀v∈vs,v.oneCell'=true
 | .int _,_,_,_,h,v,hv=>by obtain⟨rfl,_⟩:=h;simp at hv;subst hv;rfl
 | .bool,_,_,_,h,v,hv=>by obtain⟨rfl,_⟩:=h;simp at hv;subst hv;rfl
 | .str,_,_,_,h,v,hv=>by obtain⟨rfl,_⟩:=h;simp at hv;subst hv;rfl
 | .sl _,_,_,_,h,v,hv=>by obtain⟨u,rfl,h⟩:=h;simp at hv;subst hv;rcases h with⟨⟨_,rfl⟩,_⟩|⟨b,o0,cap,arr,T,fr,fps,rfl,_⟩<;>rfl
 | .pair a b,_,_,_,h,v,hv=>by obtain⟨v1,v2,f1,f2,rfl,rfl,h1,h2⟩:=h;rcases aA.1 hv with hv|hv;exact eS.pt h1 v hv;exact eS.pt h2 v hv
end Go.Dn
