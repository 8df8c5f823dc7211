import Derived.Test.YthllnaiaikjelaaGreatDnCells
import Derived.Laws.AppendOwn
/- The model's own operations on memory, on the blocks that states speak of. -/
namespace Go.Dn
open Go.RowKit
variable {arr:Array Value} {fr:Nat×Nat} {P:Program} {sh:Shape} {T:TypeId}
theorem pO (b o n:Nat):(⟨b,o,none⟩:Addr).add n=⟨b,o+n,none⟩:=by unfold Addr.add;split;rename_i h;subst h;rfl;rfl
def zB (w:World)(b:Nat)(arr:Array Value)(T:TypeId)(fr:Nat×Nat):World:={w with heap:=w.heap.setIfInBounds b (.cells arr T fr)}
theorem nG (w:World)(b:Nat)(arr:Array Value)(T:TypeId)(fr:Nat×Nat):(zB w b arr T fr).heap.size=w.heap.size:=by simp[zB]
theorem C6 {w:World}{b:Nat}(h:b<w.heap.size):(zB w b arr T fr).heap[b]?=some (.cells arr T fr):=by simp[zB,h]
theorem oW {w:World}{b b':Nat}(h:b'≠b):(zB w b arr T fr).heap[b']?=w.heap[b']?:=by simp only[zB,Array.getElem?_setIfInBounds];rw[aK (cX h)]
theorem oo {w:World}{b:Nat}{o:Obj}(h:w.heap[b]?=some o):b<w.heap.size:=(Array.getElem?_eq_some_iff.1 h).1
theorem aaY {w:World}{b o:Nat}(h:w.heap[b]?=some (.cells arr T fr))(v:Value): w.setCell ⟨b,o,none⟩ v=zB w b (arr.setIfInBounds o v) T fr:=by have hb:=oo h;simp only[World.setCell,zB];congr 1;apply Array.ext_getElem?;intro i;simp only[Array.getElem?_modify,Array.getElem?_setIfInBounds];by_cases hbi:b=i;subst hbi;have e:=(Array.getElem?_eq_some_iff.1 h).2;simp[hb,e];simp[hbi]
theorem ak4 (w:World)(b:Nat)(arr jV:Array Value)(T:TypeId)(fr:Nat×Nat):zB (zB w b arr T fr) b jV T fr=zB w b jV T fr:=by simp[zB]
theorem apF {w:World}{b:Nat}(h:w.heap[b]?=some (.cells arr T fr)):zB w b arr T fr=w:=by have e:=Array.getElem?_eq_some_iff.1 h;cases w with|mk heap tape drawn os output=>simp only[zB];congr 1;apply Array.ext_getElem?;intro i;simp only[Array.getElem?_setIfInBounds];by_cases hbi:b=i;subst hbi;simp at h⊢;rw[h];simp[e.1];simp[hbi]
def eY (arr:Array Value)(o:Nat):iW->Array Value
 |[]=>arr
 |v::r=>eY (arr.setIfInBounds o v) (o+1) r
theorem js (vs:iW):∀(arr:Array Value)(o:Nat),(eY arr o vs).size=arr.size:=by induction vs with|nil=>intro arr o;rfl|cons v r ih=>intro arr o;simp[eY,ih]
theorem BN (vs:iW):∀(arr:Array Value)(o:Nat),o+vs.length<=arr.size-> (eY arr o vs).toList=arr.toList.take o++vs++arr.toList.drop (o+vs.length):=by
 induction vs with
 |nil=>intro arr o _;simp[eY]
 |cons v r ih=>
  intro arr o h;simp only[bJ]at h;rw[eY,ih _ _ (by simp;omega)];have ho:o<arr.toList.length:=by simp;omega
  have e:(arr.setIfInBounds o v).toList=arr.toList.take o++(v::arr.toList.drop (o+1)):=by rw[Array.toList_setIfInBounds,List.set_eq_take_append_cons_drop,aM ho]
  have hl:(arr.toList.take o).length=o:=by rw[bm];omega
  rw[e];have h1:(arr.toList.take o++(v::arr.toList.drop (o+1))).take (o+1)=arr.toList.take o++[v]:=by rw[List.take_append,hl,bN (by omega)];simp
  have h2:(arr.toList.take o++(v::arr.toList.drop (o+1))).drop (o+1+r.length)=arr.toList.drop (o+(r.length+1)):=by
   rw[List.drop_append,hl,dk (by omega)];have:o+1+r.length-o=r.length+1:=by omega
   rw[this,List.drop_succ_cons,eO];simp only[bH];congr 1;omega
  rw[h1,h2];simp
theorem Ci (P:Program)(b off:Nat)(T:TypeId)(fr:Nat×Nat):∀(vs:iW)(i:Nat)(w:World)(arr:Array Value),w.heap[b]?=some (.cells arr T fr)->tp arr fr->
 off+i+vs.length<=arr.size->(∀v∈vs,v.oneCell'=true)->(storeCells ⟨b,off,none⟩ vs i).run P w=.ok () (zB w b (eY arr (off+i) vs) T fr)
 |[],i,w,arr,h,_,_,_=>by simp only[storeCells,eY,Sem.run_pure,apF h]
 |v::vs,i,w,arr,h,uI,hl,h1=>by
  simp only[bJ]at hl;have hc:w.cell? ⟨b,off+i,none⟩=some arr[off+i]:=by rw[oX h];exact Array.getElem?_eq_getElem (by omega)
  have hf:w.frozen? ⟨b,off+i,none⟩=false:=by simp only[World.frozen?,h];have:=uI (off+i) (by omega);simpa using this
  have hs:(store ⟨b,off+i,none⟩ v).run P w=.ok () (w.setCell ⟨b,off+i,none⟩ v):=by rw[run_store P w _ v .plain (h1 v (by simp)),hc];simp[hf]
  have iJ:=oo h;have ih:=Ci P b off T fr vs (i+1) (zB w b (arr.setIfInBounds (off+i) v) T fr) (arr.setIfInBounds (off+i) v) (C6 iJ) (λj hj=>uI j (by simpa using hj)) (by simp;omega) (λu hu=>h1 u (dK _ hu));simp only[storeCells,Sem.run_bind,pO,hs,Result.andThen_ok,aaY h,ih,ak4,eY];rfl
theorem Eo {w:World}(hT:alf P T sh)(b off:Nat)(vs:iW)(hl:vs.length=sh.ct.size)(hc:∀j v,vs[j]?=some v->w.cell? ⟨b,off+j,none⟩=some v):∃v,(loadVar T ⟨b,off,none⟩).run P w=.ok v w/\Cut sh.agg v vs:=by
 obtain⟨i,z,hi,xx,_⟩:=hT.elem.info;cases T8:sh.agg with
 |true=>obtain⟨fs,hu,_⟩:=hT.agg T8;have hlc:=run_loadCells_list (P:=P) w ⟨b,off,none⟩ vs (λj v hv=>by rw[pO];exact hc j v hv);refine⟨.agg vs.toArray,?_,by simp[Cut]⟩;simp only[loadVar,isAgg,sizeOf,typeInfo,underlying,Sem.run_bind,run_program,hu,hi,Result.andThen_ok,Sem.run_pure,xx,<-hl,hlc,cd,Sem.run_ite]
 |false=>
  have h1:sh.ct.size=1:=by cases SR:sh.ct with|pair a b=>have:=hT.pair a b SR;rw[T8]at this;cases this|_=>rfl
  rw[h1]at hl;obtain⟨v,rfl⟩:=List.length_eq_one_iff.1 hl;have Fc:=hc 0 v rfl;simp only[dZ]at Fc;have hnu:∃d,P.underlying T=some d/\(match d with| .struct _| .array _ _=>True|_=>False)=False:=by cases SR:sh.ct with|pair a b=>have:=hT.pair a b SR;rw[T8]at this;cases this|int k=>exact⟨_,hT.int k SR T8,rfl⟩|bool=>exact⟨_,hT.bool SR T8,rfl⟩|str=>exact⟨_,hT.str SR T8,rfl⟩|sl e=>obtain⟨te,hu,_⟩:=hT.sl e SR T8;exact⟨_,hu,rfl⟩
  obtain⟨d,hu,hd⟩:=hnu;refine⟨v,?_,by simp[Cut]⟩;simp only[loadVar,isAgg,underlying,Sem.run_bind,run_program,hu,Result.andThen_ok,Sem.run_pure];cases d<;>simp at hd<;>simp[Fc]
theorem KS {w:World}{T':TypeId}(hT:alf P T sh)(b off:Nat){v:Value}{vs:iW}{g:Bool}(hv:Cut g v vs)(hl:vs.length=sh.ct.size)(h1:∀u∈vs,u.oneCell'=true)(hb:w.heap[b]?=some (.cells arr T' fr))(uI:tp arr fr)(iB:off+vs.length<=arr.size:=by omega): (storeVar T ⟨b,off,none⟩ v).run P w=.ok () (zB w b (eY arr off vs) T' fr):=by
 obtain⟨i,z,hi,xx,_⟩:=hT.elem.info;have Iz:v.cells.toList=vs:=by unfold Cut at hv;cases g with|true=>simp at hv;subst hv;simp[Value.cells]|false=>simp at hv;subst hv;have:=h1 v (by simp);cases v<;>simp[Value.cells,Value.oneCell']at this⊢
 have aAp:v.cells.size=sh.ct.size:=by rw[<-hl,<-Iz];simp
 simp only[storeVar,sizeOf,typeInfo,Sem.run_bind,run_program,hi,Result.andThen_ok,Sem.run_pure,xx,aAp,ne_eq,not_true_eq_false,cE,Iz];have:=Ci P b off T' fr vs 0 w arr hb uI (by simpa using iB) h1;simpa using this
theorem iD.py {c:RC}{v:Value}{x:AC}{fp:ei}(r:iD c v x fp)(hs:x.QR=true):v.oneCell'=true:=by
 cases x with
 |int k n=>rw[r.1];rfl
 |bool b=>rw[r.1];rfl
 |str s=>rw[r.1];rfl
 |kS=>rw[r.1];rfl
 |fn f=>rw[r.1];rfl
 |ptr s off=>rw[r.1];rfl
 |un=>cases hs
 |bot=>cases hs
 |HM fl e y i off=>
  cases fl with
  |own t=>exact r.elim
  |arg _=>obtain⟨_,b,o,rfl,_⟩:=r;rfl
  |loc ep pv=>obtain⟨_,b,o,rfl,_⟩:=r;rfl
  |nest _ _ _ _ _ _=>exact r.elim
  |part _ _ _ _=>exact r.elim
  |fL _ _ _=>exact r.elim
 |sl fl e xs=>
  cases fl with
  |own t=>obtain⟨⟨u,hu,h⟩,_⟩:=r;simp at hu;subst hu;rcases h with⟨⟨_,rfl⟩,_⟩|⟨b,o0,cap,arr,T,fr,fps,rfl,_⟩<;>rfl
  |arg _=>obtain⟨_,u,hu,h⟩:=r;simp at hu;subst hu;rcases h with⟨⟨ad,rfl⟩,_⟩|⟨b,o,cap,rfl,_⟩<;>rfl
  |loc ep pv=>obtain⟨_,_,⟨o,n,k,rfl,_⟩,_⟩:=r;rfl
  |nest _ _ _ _ _ _=>obtain⟨_,_,⟨o,n,k,rfl,_⟩,_⟩:=r;rfl
  |part _ _ _ _=>obtain⟨_,_,⟨o,n,k,rfl,_⟩,_⟩:=r;rfl
  |fL _ _ _=>obtain⟨_,⟨k,_,b,o0,cap,arr,T,fr,fps,rfl,_⟩,_⟩:=r;rfl
theorem bE.py {c:RC}:∀{vs:iW}{xs:ar AC}{fp:ei},bE c vs xs fp->xs.all AC.QR=true->∀v∈vs,v.oneCell'=true
 |[],[],_,_,_,v,hv=>by cases hv
 |u::vs,x::xs,_,r,hs,v,hv=>by obtain⟨f1,f2,rfl,r1,r2⟩:=r;simp only[bV,ah]at hs;rcases cq.1 hv with rfl|hv;exact r1.py hs.1;exact bE.py r2 hs.2 v hv
 |[],_::_,_,r,_,_,_=>r.elim
 |_::_,[],_,r,_,_,_=>r.elim
theorem eU.py {hw:Nat->Nat}{w:World}:∀{e:CT}{vs:iW}{x:e.D}{fp:ei},eU hw w e vs x fp->∀v∈vs,v.oneCell'=true
 | .int _,_,_,_,h,v,hv=>by obtain⟨rfl,_⟩:=h;simp at hv;subst hv;rfl
 | .bool,_,_,_,h,v,hv=>by obtain⟨rfl,_⟩:=h;simp at hv;subst hv;rfl
 | .str,_,_,_,h,v,hv=>by obtain⟨rfl,_⟩:=h;simp at hv;subst hv;rfl
 | .sl _,_,_,_,h,v,hv=>by obtain⟨u,rfl,h⟩:=h;simp at hv;subst hv;rcases h with⟨⟨_,rfl⟩,_⟩|⟨b,o0,cap,arr,T,fr,fps,rfl,_⟩<;>rfl
 | .pair a b,_,_,_,h,v,hv=>by obtain⟨v1,v2,f1,f2,rfl,rfl,h1,h2⟩:=h;rcases aA.1 hv with hv|hv;exact eU.py h1 v hv;exact eU.py h2 v hv
end Go.Dn
