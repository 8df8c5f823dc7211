import Derived.Test.YthllnaiaikjelaaGreatDnCells
import Derived.Laws.AppendOwn
/- The model's own operations on memory, on the blocks that states speak of. -/
namespace Go.Dn
open Go.RowKit
variable {arr:Array Value} {fr:Nat×Nat} {P:Program} {sh:Shape} {T:TypeId}
theorem mN (b o n:Nat):(⟨b,o,none⟩:Addr).add n=⟨b,o+n,none⟩:=by unfold Addr.add;split;rename_i h;subst h;rfl;rfl
def uw (w:World)(b:Nat)(arr:Array Value)(T:TypeId)(fr:Nat×Nat):World:={w with heap:=w.heap.setIfInBounds b (.cells arr T fr)}
theorem kV (w:World)(b:Nat)(arr:Array Value)(T:TypeId)(fr:Nat×Nat):(uw w b arr T fr).heap.size=w.heap.size:=by simp[uw]
theorem xA {w:World}{b:Nat}(h:b<w.heap.size):(uw w b arr T fr).heap[b]?=some (.cells arr T fr):=by simp[uw,h]
theorem mf {w:World}{b b':Nat}(h:b'≠b):(uw w b arr T fr).heap[b']?=w.heap[b']?:=by simp only[uw,Array.getElem?_setIfInBounds];rw[aG (cC h)]
theorem lE {w:World}{b:Nat}{o:Obj}(h:w.heap[b]?=some o):b<w.heap.size:=(Array.getElem?_eq_some_iff.1 h).1
theorem Ti {w:World}{b o:Nat}(h:w.heap[b]?=some (.cells arr T fr))(v:Value): w.setCell ⟨b,o,none⟩ v=uw w b (arr.setIfInBounds o v) T fr:=by have hb:=lE h;simp only[World.setCell,uw];congr 1;apply Array.ext_getElem?;intro i;simp only[Array.getElem?_modify,Array.getElem?_setIfInBounds];by_cases hbi:b=i;subst hbi;have e:=(Array.getElem?_eq_some_iff.1 h).2;simp[hb,e];simp[hbi]
theorem acn (w:World)(b:Nat)(arr iG:Array Value)(T:TypeId)(fr:Nat×Nat):uw (uw w b arr T fr) b iG T fr=uw w b iG T fr:=by simp[uw]
theorem ags {w:World}{b:Nat}(h:w.heap[b]?=some (.cells arr T fr)):uw w b arr T fr=w:=by have e:=Array.getElem?_eq_some_iff.1 h;cases w with|mk heap tape drawn os output=>simp only[uw];congr 1;apply Array.ext_getElem?;intro i;simp only[Array.getElem?_setIfInBounds];by_cases hbi:b=i;subst hbi;simp at h⊢;rw[h];simp[e.1];simp[hbi]
def ef (arr:Array Value)(o:Nat):gO->Array Value
 |[]=>arr
 |v::r=>ef (arr.setIfInBounds o v) (o+1) r
theorem ik (vs:gO):∀(arr:Array Value)(o:Nat),(ef arr o vs).size=arr.size:=by induction vs with|nil=>intro arr o;rfl|cons v r ih=>intro arr o;simp[ef,ih]
theorem wx (vs:gO):∀(arr:Array Value)(o:Nat),o+vs.length<=arr.size-> (ef arr o vs).toList=arr.toList.take o++vs++arr.toList.drop (o+vs.length):=by
 induction vs with
 |nil=>intro arr o _;simp[ef]
 |cons v r ih=>
  intro arr o h;simp only[cf]at h;rw[ef,ih _ _ (by simp;omega)];have ho:o<arr.toList.length:=by simp;omega
  have e:(arr.setIfInBounds o v).toList=arr.toList.take o++(v::arr.toList.drop (o+1)):=by rw[Array.toList_setIfInBounds,List.set_eq_take_append_cons_drop,aH ho]
  have hl:(arr.toList.take o).length=o:=by rw[bm];omega
  rw[e];have h1:(arr.toList.take o++(v::arr.toList.drop (o+1))).take (o+1)=arr.toList.take o++[v]:=by rw[List.take_append,hl,bI (by omega)];simp
  have h2:(arr.toList.take o++(v::arr.toList.drop (o+1))).drop (o+1+r.length)=arr.toList.drop (o+(r.length+1)):=by
   rw[List.drop_append,hl,cP (by omega)];have:o+1+r.length-o=r.length+1:=by omega
   rw[this,List.drop_succ_cons,eo];simp only[cp];congr 1;omega
  rw[h1,h2];simp
theorem wX (P:Program)(b off:Nat)(T:TypeId)(fr:Nat×Nat):∀(vs:gO)(i:Nat)(w:World)(arr:Array Value),w.heap[b]?=some (.cells arr T fr)->pe arr fr->
 off+i+vs.length<=arr.size->(∀v∈vs,v.oneCell'=true)->(storeCells ⟨b,off,none⟩ vs i).run P w=.ok () (uw w b (ef arr (off+i) vs) T fr)
 |[],i,w,arr,h,_,_,_=>by simp only[storeCells,ef,Sem.run_pure,ags h]
 |v::vs,i,w,arr,h,qf,hl,h1=>by
  simp only[cf]at hl;have hc:w.cell? ⟨b,off+i,none⟩=some arr[off+i]:=by rw[mh h];exact Array.getElem?_eq_getElem (by omega)
  have hf:w.frozen? ⟨b,off+i,none⟩=false:=by simp only[World.frozen?,h];have:=qf (off+i) (by omega);simpa using this
  have hs:(store ⟨b,off+i,none⟩ v).run P w=.ok () (w.setCell ⟨b,off+i,none⟩ v):=by rw[run_store P w _ v .plain (h1 v (by simp)),hc];simp[hf]
  have gM:=lE h;have ih:=wX P b off T fr vs (i+1) (uw w b (arr.setIfInBounds (off+i) v) T fr) (arr.setIfInBounds (off+i) v) (xA gM) (λj hj=>qf j (by simpa using hj)) (by simp;omega) (λu hu=>h1 u (eH _ hu));simp only[storeCells,Sem.run_bind,mN,hs,Result.andThen_ok,Ti h,ih,acn,ef];rfl
theorem yW {w:World}(hT:acv P T sh)(b off:Nat)(vs:gO)(hl:vs.length=sh.ct.size)(hc:∀j v,vs[j]?=some v->w.cell? ⟨b,off+j,none⟩=some v):∃v,(loadVar T ⟨b,off,none⟩).run P w=.ok v w/\Cut sh.agg v vs:=by
 obtain⟨i,z,hi,sD,_⟩:=hT.elem.info;cases MX:sh.agg with
 |true=>obtain⟨fs,hu,_⟩:=hT.agg MX;have hlc:=run_loadCells_list (P:=P) w ⟨b,off,none⟩ vs (λj v hv=>by rw[mN];exact hc j v hv);refine⟨.agg vs.toArray,?_,by simp[Cut]⟩;simp only[loadVar,isAgg,sizeOf,typeInfo,underlying,Sem.run_bind,run_program,hu,hi,Result.andThen_ok,Sem.run_pure,sD,<-hl,hlc,bF,Sem.run_ite]
 |false=>
  have h1:sh.ct.size=1:=by cases LZ:sh.ct with|pair a b=>have:=hT.pair a b LZ;rw[MX]at this;cases this|_=>rfl
  rw[h1]at hl;obtain⟨v,rfl⟩:=List.length_eq_one_iff.1 hl;have zS:=hc 0 v rfl;simp only[dF]at zS;have hnu:∃d,P.underlying T=some d/\(match d with| .struct _| .array _ _=>True|_=>False)=False:=by cases LZ:sh.ct with|pair a b=>have:=hT.pair a b LZ;rw[MX]at this;cases this|int k=>exact⟨_,hT.int k LZ MX,rfl⟩|bool=>exact⟨_,hT.bool LZ MX,rfl⟩|str=>exact⟨_,hT.str LZ MX,rfl⟩|sl e=>obtain⟨te,hu,_⟩:=hT.sl e LZ MX;exact⟨_,hu,rfl⟩
  obtain⟨d,hu,hd⟩:=hnu;refine⟨v,?_,by simp[Cut]⟩;simp only[loadVar,isAgg,underlying,Sem.run_bind,run_program,hu,Result.andThen_ok,Sem.run_pure];cases d<;>simp at hd<;>simp[zS]
theorem E8 {w:World}{T':TypeId}(hT:acv P T sh)(b off:Nat){v:Value}{vs:gO}{g:Bool}(hv:Cut g v vs)(hl:vs.length=sh.ct.size)(h1:∀u∈vs,u.oneCell'=true)(hb:w.heap[b]?=some (.cells arr T' fr))(qf:pe arr fr)(gv:off+vs.length<=arr.size:=by omega): (storeVar T ⟨b,off,none⟩ v).run P w=.ok () (uw w b (ef arr off vs) T' fr):=by
 obtain⟨i,z,hi,sD,_⟩:=hT.elem.info;have CU:v.cells.toList=vs:=by unfold Cut at hv;cases g with|true=>simp at hv;subst hv;simp[Value.cells]|false=>simp at hv;subst hv;have:=h1 v (by simp);cases v<;>simp[Value.cells,Value.oneCell']at this⊢
 have apS:v.cells.size=sh.ct.size:=by rw[<-hl,<-CU];simp
 simp only[storeVar,sizeOf,typeInfo,Sem.run_bind,run_program,hi,Result.andThen_ok,Sem.run_pure,sD,apS,ne_eq,not_true_eq_false,bV,CU];have:=wX P b off T' fr vs 0 w arr hb qf (by simpa using gv) h1;simpa using this
theorem gy.mD {c:RC}{v:Value}{x:AC}{fp:dy}(r:gy c v x fp)(hs:x.Kq=true):v.oneCell'=true:=by
 cases x with
 |int k n=>rw[r.1];rfl
 |bool b=>rw[r.1];rfl
 |str s=>rw[r.1];rfl
 |jd=>rw[r.1];rfl
 |fn f=>rw[r.1];rfl
 |ptr s off=>rw[r.1];rfl
 |un=>cases hs
 |bot=>cases hs
 |Cg fl e y i off=>
  cases fl with
  |own t=>exact r.elim
  |arg _=>obtain⟨_,b,o,rfl,_⟩:=r;rfl
  |loc ep pv=>obtain⟨_,b,o,rfl,_⟩:=r;rfl
  |nest _ _ _ _ _ _=>exact r.elim
  |part _ _ _ _=>exact r.elim
  |eS _ _ _=>exact r.elim
 |sl fl e xs=>
  cases fl with
  |own t=>obtain⟨⟨u,hu,h⟩,_⟩:=r;simp at hu;subst hu;rcases h with⟨⟨_,rfl⟩,_⟩|⟨b,o0,cap,arr,T,fr,fps,rfl,_⟩<;>rfl
  |arg _=>obtain⟨_,u,hu,h⟩:=r;simp at hu;subst hu;rcases h with⟨⟨ad,rfl⟩,_⟩|⟨b,o,cap,rfl,_⟩<;>rfl
  |loc ep pv=>obtain⟨_,_,⟨o,n,k,rfl,_⟩,_⟩:=r;rfl
  |nest _ _ _ _ _ _=>obtain⟨_,_,⟨o,n,k,rfl,_⟩,_⟩:=r;rfl
  |part _ _ _ _=>obtain⟨_,_,⟨o,n,k,rfl,_⟩,_⟩:=r;rfl
  |eS _ _ _=>obtain⟨_,⟨k,_,b,o0,cap,arr,T,fr,fps,rfl,_⟩,_⟩:=r;rfl
theorem bn.mD {c:RC}:∀{vs:gO}{xs:aq AC}{fp:dy},bn c vs xs fp->xs.all AC.Kq=true->∀v∈vs,v.oneCell'=true
 |[],[],_,_,_,v,hv=>by cases hv
 |u::vs,x::xs,_,r,hs,v,hv=>by obtain⟨f1,f2,rfl,r1,r2⟩:=r;simp only[bC,ah]at hs;rcases bU.1 hv with rfl|hv;exact r1.mD hs.1;exact bn.mD r2 hs.2 v hv
 |[],_::_,_,r,_,_,_=>r.elim
 |_::_,[],_,r,_,_,_=>r.elim
theorem dY.mD {hw:Nat->Nat}{w:World}:∀{e:CT}{vs:gO}{x:e.D}{fp:dy},dY hw w e vs x fp->∀v∈vs,v.oneCell'=true
 | .int _,_,_,_,h,v,hv=>by obtain⟨rfl,_⟩:=h;simp at hv;subst hv;rfl
 | .bool,_,_,_,h,v,hv=>by obtain⟨rfl,_⟩:=h;simp at hv;subst hv;rfl
 | .str,_,_,_,h,v,hv=>by obtain⟨rfl,_⟩:=h;simp at hv;subst hv;rfl
 | .sl _,_,_,_,h,v,hv=>by obtain⟨u,rfl,h⟩:=h;simp at hv;subst hv;rcases h with⟨⟨_,rfl⟩,_⟩|⟨b,o0,cap,arr,T,fr,fps,rfl,_⟩<;>rfl
 | .pair a b,_,_,_,h,v,hv=>by obtain⟨v1,v2,f1,f2,rfl,rfl,h1,h2⟩:=h;rcases ay.1 hv with hv|hv;exact dY.mD h1 v hv;exact dY.mD h2 v hv
end Go.Dn
