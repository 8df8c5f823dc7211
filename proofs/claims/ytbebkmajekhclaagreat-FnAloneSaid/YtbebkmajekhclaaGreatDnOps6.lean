import Derived.Test.YtbebkmajekhclaaGreatDnOps5
/- Part 6: structs and slices that are built; append. -/
namespace Go.Dn
open Go.RowKit
variable {P:Program} {C:Ctx} {st:AS} {a:Act} {w:World} {R:Type} {r:R}
variable {parts:Array (Nat×Operand)} {place:Nat->ay (Nat×Nat)} {T:TypeId} {hs:aw (Value×AV)}
theorem ew.fI:∀(xs:aw Operand){g:Gh}{st:AS}{hs:aw (Value×AV)},ew C g st a w hs->
 ∃g',ew C g' (fI st xs).2 a w (hs++(xs.map a.eval).zip (fI st xs).1)/\(fI st xs).1.length=xs.length/\(fI st xs).2.ep=st.ep
 |[],g,st,hs,h=>⟨g,by simpa[Dn.fI]using h,rfl,rfl⟩
 |x::xs,g,st,hs,h=>by obtain⟨g1,h1⟩:=h.take x;obtain⟨g2,h2,hl,Ac⟩:=ew.fI xs h1;refine⟨g2,?_,by simp[Dn.fI,hl],by simp only[Dn.fI];rw[Ac,VD]⟩;simpa[Dn.fI]using h2
theorem YI {α β:Type}(f:α->Sem β)(gf:α->β)(w:World):∀(l:aw α),(∀x∈l,(f x).run P w=.ok (gf x) w)->(l.mapM f).run P w=.ok (l.map gf) w
 |[],_=>by simp
 |x::l,h=>by rw[List.mapM_cons];simp only[Sem.run_bind,h x (by simp),Result.andThen_ok,YI f gf w l (λy hy=>h y (eR _ hy)),Sem.run_pure,da]
theorem ED {α β:Type}(f:α->Sem β)(gf:α->β)(w:World)(l:Array α)(h:∀x∈l,(f x).run P w=.ok (gf x) w):(l.mapM f).run P w=.ok (l.map gf) w:=by rw[Array.mapM_eq_mapM_toList,Sem.run_map,YI f gf w l.toList (λx hx=>h x (by simpa using hx))];simp only[Result.andThen_ok,Result.ok.injEq,jh];apply fK;simp
theorem QH (us:jd):∀(arr:Array Value)(off j:Nat),((us.zipIdx j).foldl (λcs (x:Value×Nat)=>cs.setIfInBounds (off+x.2) x.1) arr)=ff arr (off+j) us:=by induction us with|nil=>intro arr off j;rfl|cons u us ih=>intro arr off j;rw[List.zipIdx_cons,dp,ih];rfl
theorem RU {cells:Array Value}{i:Nat}{v:Value}{rest:aw (Nat×Value)}{off:Nat}{us:jd}(hp:place i=some (off,us.length))(hv:v.cells.toList=us)(ib:off+us.length<=cells.size):Instr.fill place cells ((i,v)::rest)=Instr.fill place (ff cells off us) rest:=by
 have vB:v.cells.size=us.length:=by rw[<-hv];simp
 rw[Instr.fill,hp];simp only[vB];rw[aG (by simp;omega)];congr 1;have:v.cells=us.toArray:=by apply fK;simpa using hv
 rw[this];have h2:=QH us cells off 0;rw[eG]at h2;rw[<-h2];rw[<-Array.foldl_toList];simp
theorem agI {cs vs:aw AC}{off n:Nat}(h:vs.length=n):eP cs off vs=cs.take off++vs++cs.drop (off+n):=by simp only[eP];rw[h]
theorem Oa {g:Gh}(h:ew C g st a w hs){kx:aw (Nat×Nat)}(GZ:∀i fo n,kx[i]?=some (fo,n)->place i=some (fo,n)):
 ∀(parts:aw (Nat×Value×AV))(k:Nat)(arr:Array Value)(zs:aw AC)(fp:fE)(cs:aw AC),(∀j i v av,parts[j]?=some (i,v,av)->hs[k+j]?=some (v,av))->
  bO (db C g st w) arr.toList zs fp->fp.Nodup->(∀b∈fp,∃j,j<k/\g.eX b=some (.hand j))->
  xM kx zs (parts.map λx=>(x.1,x.2.2.cells))=some cs->
  ∃jv kK,Instr.fill place arr (parts.map λx=>(x.1,x.2.1))=some jv/\bO (db C g st w) jv.toList cs kK/\kK.Nodup/\∀b∈kK,∃j,g.eX b=some (.hand j)
 |[],k,arr,zs,fp,cs,_,hr,hn,hl,hb=>by simp[xM]at hb;subst hb;exact⟨arr,fp,rfl,hr,hn,λb hb=>let ⟨j,_,hj⟩:=hl b hb;⟨j,hj⟩⟩
 |(i,v,av)::parts,k,arr,zs,fp,cs,hp,hr,hn,hl,hb=>by
  simp only[da,xM,ej]at hb;split at hb;rename_i off n Q1;split at hb;rename_i hc;obtain⟨fh,Sg,QK,Xc⟩:=h.hands k v av (by simpa using hp 0 i v av rfl);cases av with
  |xC ts=>simp[AV.cells,AC.Kl]at hc
  |val gg vs=>
   simp only[AV.cells]at hc hb;obtain⟨us,fS,ZG⟩:=Sg;have hul:=ZG.length;have h1:=ZG.nR hc.2.2;have De:=KS fS h1;have hal:=hr.length;have awe:arr.size=zs.length:=by simpa using hal
   have ib:off+us.length<=arr.size:=by omega
   have aoe:place i=some (off,us.length):=by rw[GZ i off n Q1];congr 2;omega
   obtain⟨f1,f2,f3,rfl,r1,r2,r3⟩:=hr.mid off us.length;have fG:bO (db C g st w) (ff arr off us).toList (eP zs off vs) (f1++fh++f3):=by rw[xe us arr off ib,agI hul.symm];exact(r1.append ZG).append r3
   have Fj:∀b∈fh,b∉f1++f2++f3:=by intro b ix hm;obtain⟨j,hj,hlj⟩:=hl b hm;rw[Xc b ix]at hlj;simp at hlj;omega
   have DH:=hn;rw[aY]at DH;have n1:=aN.1 DH;have n2:=aN.1 n1.2.1;have aoa:(f1++fh++f3).Nodup:=by rw[aY];refine aN.2 ⟨n1.1,aN.2 ⟨QK,n2.2.1,?_⟩,?_⟩;rintro b ix c Co rfl;exact Fj b ix (by simp[Co]);rintro b ix c Co rfl;rcases az.1 Co with Co|Co;exact Fj b Co (by simp[ix]);exact n1.2.2 b ix b (bu _ Co) rfl
   obtain⟨jv,kK,hf,xI,avw,hl'⟩:=Oa h GZ parts (k+1) (ff arr off us) (eP zs off vs) (f1++fh++f3) cs (λj i' v' QO hj=>by have:=hp (j+1) i' v' QO (by simpa using hj);rwa[show k+(j+1)=k+1+j by omega]at this) fG aoa (λb ix=>by simp only[az]at ix;rcases ix with(ix|ix)|ix;obtain⟨j,hj,hlj⟩:=hl b (by simp[ix]);exact⟨j,by omega,hlj⟩;exact⟨k,by omega,Xc b ix⟩;obtain⟨j,hj,hlj⟩:=hl b (by simp[ix]);exact⟨j,by omega,hlj⟩) hb;refine⟨jv,kK,?_,xI,avw,hl'⟩;rw[da,RU aoe De ib];exact hf
  cases hb;cases hb
theorem apt {α β γ:Type}:∀(l:aw α)(m:aw β)(n:aw γ),l.length=m.length->m.length=n.length->
 ∃ps:aw (α×β×γ),ps.map (λx=>(x.1,x.2.1))=l.zip m/\ps.map (λx=>(x.1,x.2.2))=l.zip n/\ps.map (λx=>(x.2.1,x.2.2))=m.zip n
 |[],[],[],_,_=>⟨[],rfl,rfl,rfl⟩
 |x::l,y::m,z::n,h1,h2=>by obtain⟨ps,p1,p2,p3⟩:=apt l m n (by simpa using h1) (by simpa using h2);exact⟨(x,y,z)::ps,by simp[p1],by simp[p2],by simp[p3]⟩
 |[],_::_,_,h,_=>by simp at h
 |_::_,[],_,h,_=>by simp at h
 |[],[],_::_,_,h=>by simp at h
 |_::_,_::_,[],_,h=>by simp at h
theorem Z5 {E:Env}(hE:jR P E.ty){o:Oper}(ho:o.op=.build T parts)(h:pc C st a w){K:AS->ay R}(hk:C9 E o T parts.toList st K=some r):nC P C o a w K r:=by
 obtain⟨g,hg⟩:=h;unfold C9 at hk;split at hk;rename_i ct kx hT;split at hk;rename_i vs bU ue;split at hk;rename_i cs hbc;obtain⟨g',oX,hlen,Ac⟩:=hg.fI (parts.toList.map (·.2));rw[ue]at oX hlen;simp only[ch]at oX hlen;have oY:=hE T _ hT;obtain⟨inf,z,DG,vB,_,hz,hzc⟩:=oY.elem.info;obtain⟨fs,hu,IU⟩:=oY.agg rfl;have anV:=oY.count rfl fs hu;have alm:(fs.mapM λf=>do pure (f.offset,<-sizeOf f.type):Sem (Array (Nat×Nat))).run P w=.ok (fs.map λf=>(f.offset,P.cellsOf f.type)) w:=by refine ED _ _ w fs (λf hf=>?_);obtain⟨i,hi,rfl⟩:=Array.mem_iff_getElem.1 hf;obtain⟨avM,aqf⟩:=anV i fs[i] (Array.getElem?_eq_getElem hi);simp[sizeOf,typeInfo,aqf,Program.cellsOf]
 have GZ:∀(i fo n:Nat),kx[i]?=some (fo,n)->(λ(i:Nat)=>(fs.map λf=>(f.offset,P.cellsOf f.type))[i]?) i=some (fo,n):=by intro i fo n hi;obtain⟨fd,hfd,h1,_,avM,h2,h3⟩:=IU i fo n hi;simp only[Array.getElem?_map,hfd,dE,h1,Program.cellsOf,h2,h3,ga]
 have hzero:bO (db C g' bU w) z.cells.toList (cellsOf ct (.own none) ct.zero) []:=by rw[hzc];exact Bu (GF _ _ _)
 have hl1:(parts.toList.map (·.1)).length=((parts.toList.map (·.2)).map a.eval).length:=by simp
 have Bq:((parts.toList.map (·.2)).map a.eval).length=vs.length:=by rw[hlen];simp
 obtain⟨ps,p1,p2,p3⟩:=apt (parts.toList.map (·.1)) ((parts.toList.map (·.2)).map a.eval) vs hl1 Bq;have avg:xM kx (cellsOf ct (.own none) ct.zero) (ps.map λx=>(x.1,x.2.2.cells))=some cs:=by
  rw[<-hbc];congr 1;have:(ps.map λx=>(x.1,x.2.2.cells))=(ps.map λx=>(x.1,x.2.2)).map (λy=>(y.1,y.2.cells)):=by simp
  rw[this,p2,List.zip_map_right];simp
 obtain⟨jv,kK,aiu,fG,DH,hl'⟩:=Oa oX (place:=λ(i:Nat)=>(fs.map λf=>(f.offset,P.cellsOf f.type))[i]?) GZ ps 0 z.cells _ [] cs
  (λj i v av hj=>by
   have h1:(ps.map λx=>(x.2.1,x.2.2))[j]?=some (v,av):=by simp[hj]
   rw[p3]at h1;simpa using h1) hzero (by simp) (by simp) avg
 have abh:(parts.map λ(i,x)=>(i,a.eval x)).toList=ps.map λx=>(x.1,x.2.1):=by rw[p1];apply cI;intro j;simp[List.zip_eq_zipWith]
 have eU:(execOp a.eval o).run P w=.ok (.value (.agg jv)) w:=by simp only[execOp,ho,Instr.build,zeroValue,typeInfo,underlying,Sem.run_bind,run_program,DG,hz,hu,Result.andThen_ok,Sem.run_pure,alm,abh,aiu]
 refine⟨.agg jv,w,_,.inl eU,?_,hk⟩;exact oX.PT o.dst rfl rfl rfl rfl (λt ht=>⟨ht,rfl⟩) (Fr.refl _ _) (λ_ _ _ _=>rfl) (λ_ _ _ ho hu=>⟨ho,hu⟩) ⟨jv.toList,by simp[Cut],fG⟩ DH (λb hb=>by obtain⟨j,hj⟩:=hl' b hb;exact⟨(oX.gL b _ hj).1,.inl (by rw[hj];rfl)⟩);cases hk;cases hk
theorem X1 {g:Gh}(h:ew C g st a w hs){e:CT}:
 ∀(parts:aw (Nat×Value×AV))(k:Nat)(arr:Array Value)(xs:aw e.D)(fps:aw fE)(ys:aw e.D),(∀j i v av,parts[j]?=some (i,v,av)->hs[k+j]?=some (v,av))->
  (∀j i v av,parts[j]?=some (i,v,av)->i=k+j)->xs.length=k->arr.size=(k+parts.length)*e.size->
  kT g.hw w e (arr.toList.take (k*e.size)) xs fps->fps.flatten.Nodup->(∀b∈fps.flatten,∃j,j<k/\g.eX b=some (.hand j))->
  DT e (parts.map λx=>x.2.2.cells)=some ys->
  ∃jv aa5,Instr.fill (λi=>some (i*e.size,e.size)) arr (parts.map λx=>(x.1,x.2.1))=some jv/\jv.size=arr.size/\kT g.hw w e jv.toList (xs++ys) aa5/\aa5.flatten.Nodup/\∀b∈aa5.flatten,∃j,g.eX b=some (.hand j)
 |[],k,arr,xs,fps,ys,_,_,hk,vB,FP,hn,hl,hb=>by simp[DT]at hb;subst hb;have:arr.toList.take (k*e.size)=arr.toList:=cd (by simp at vB⊢;omega);rw[this]at FP;exact⟨arr,fps,rfl,rfl,by simpa using FP,hn,λb hb=>let ⟨j,_,hj⟩:=hl b hb;⟨j,hj⟩⟩
 |(i,v,av)::parts,k,arr,xs,fps,ys,hp,hi,hk,vB,FP,hn,hl,hb=>by
  simp only[da,DT]at hb;split at hb;rename_i y hof;simp only[aS]at hb;obtain⟨zs,hzs,hyz⟩:=hb;simp at hyz;subst hyz;have hik:i=k:=by simpa using hi 0 i v av rfl
  subst hik;obtain⟨fh,Sg,QK,Xc⟩:=h.hands i v av (by simpa using hp 0 i v av rfl);cases av with
  |xC ts=>exfalso;revert hof;simp only[AV.cells];intro hof;have:=zK (c:=db C g st w) (vs:=[undef]) (cs:=[.bot]) (fp:=[]) ⟨[],[],rfl,rfl,rfl⟩ hof;obtain⟨f1,f2,_,ik,_⟩:=this;have h1:=fQ.nR ik undef (by cases hz:e.size with|zero=>have:=e.size_pos;omega|succ n=>simp);cases h1
  |val gg vs=>
   simp only[AV.cells]at hof;obtain⟨us,fS,ZG⟩:=Sg;obtain⟨f1,f2,avn,ik,vO⟩:=zK ZG hof;have W7:us.drop e.size=[]/\f2=[]:=by cases hd:us.drop e.size with|nil=>rw[hd]at vO;exact⟨rfl,vO⟩|cons p q=>rw[hd]at vO;exact vO.elim
   have hul:us.length<=e.size:=by have:=W7.1;rw[List.drop_eq_nil_iff]at this;exact this
   rw[cd hul]at ik;have aok:us.length=e.size:=fQ.length ik;have h1:=fQ.nR ik;have De:=KS fS h1;have ae3:arr.size=i*e.size+(parts.length+1)*e.size:=by rw[vB,ba,cM]
   have hpe:e.size<=(parts.length+1)*e.size:=by rw[cM,fO];omega
   have ib:i*e.size+us.length<=arr.size:=by omega
   have QX:fh=f1:=by rw[avn,W7.2,bI]
   subst QX;have ue:(ff arr (i*e.size) us).toList.take ((i+1)*e.size)=arr.toList.take (i*e.size)++us:=by
    rw[xe us arr _ ib];have hl1:(arr.toList.take (i*e.size)++us).length=(i+1)*e.size:=by rw[ai,aV,cM,fO,aok];simp;omega
    rw[List.take_append_of_le_length (by omega),cd (by omega)]
   have abg:kT g.hw w e us [y] [fh]:=by refine⟨by simp[aok],rfl,λj z f hz hf=>?_⟩;cases j with|zero=>simp at hz hf;subst hz;subst hf;rw[Nat.zero_mul,ez,cd (by omega)];exact ik|succ j=>simp at hz
   have avk:kT g.hw w e ((ff arr (i*e.size) us).toList.take ((i+1)*e.size)) (xs++[y]) (fps++[fh]):=by rw[ue];exact FP.append abg
   have Fj:∀b∈fh,b∉fps.flatten:=by intro b ix hm;obtain⟨j,hj,hlj⟩:=hl b hm;rw[Xc b ix]at hlj;simp at hlj;omega
   obtain⟨jv,aa5,hf,xJ,anW,Dh,Bq⟩:=X1 h parts (i+1) (ff arr (i*e.size) us) (xs++[y]) (fps++[fh]) zs (λj i' v' QO hj=>by have:=hp (j+1) i' v' QO (by simpa using hj);rwa[show i+(j+1)=i+1+j by omega]at this) (λj i' v' QO hj=>by have:=hi (j+1) i' v' QO (by simpa using hj);omega) (by simp[hk]) (by rw[jb,vB,ba];congr 1;omega) avk (by simp only[eI,List.flatten_cons,List.flatten_nil,bI];refine aN.2 ⟨hn,QK,?_⟩;rintro b ix c Co rfl;exact Fj b Co ix) (λb ix=>by simp only[eI,List.flatten_cons,List.flatten_nil,bI,az]at ix;rcases ix with ix|ix;obtain⟨j,hj,hlj⟩:=hl b ix;exact⟨j,by omega,hlj⟩;exact⟨i,by omega,Xc b ix⟩) hzs;refine⟨jv,aa5,?_,by rw[xJ,jb],by simpa using anW,Dh,Bq⟩;rw[da,RU (by rw[aok]) De ib];exact hf
  cases hb
theorem JS:∀{n:Nat}{l:aw (Nat×Operand)},JR n l=true->∀j i x,l[j]?=some (i,x)->i=n+j
 |_,[],_,j,i,x,h=>by simp at h
 |n,(m,y)::l,h,0,i,x,hj=>by simp only[JR,ae,aZ]at h;simp at hj;rw[<-hj.1];exact h.1
 |n,(m,y)::l,h,j+1,i,x,hj=>by simp only[JR,ae,aZ]at h;have:=JS h.2 j i x (by simpa using hj);omega
theorem Nc {E:Env}(hE:jR P E.ty){o:Oper}{len:Nat}(ho:o.op=.buildSlice T len parts)(h:pc C st a w){K:AS->ay R}(hk:mF E o T len parts.toList st K=some r):nC P C o a w K r:=by
 obtain⟨g,hg⟩:=h;unfold mF at hk;split at hk;rename_i e hT;split at hk;rename_i hc;obtain⟨GZ,Q0,hlen⟩:=hc;split at hk;rename_i vs bU ue;split at hk;rename_i xs avs;obtain⟨g',oX,hvl,Ac⟩:=hg.fI (parts.toList.map (·.2));rw[ue]at oX hvl;simp only[ch]at oX hvl;obtain⟨te,hu,⟨inf,z,DG,vB,hby,hz,hzc⟩,hsm⟩:=Gp hE hT;have hl1:(parts.toList.map (·.1)).length=((parts.toList.map (·.2)).map a.eval).length:=by simp
 have Bq:((parts.toList.map (·.2)).map a.eval).length=vs.length:=by rw[hvl];simp
 obtain⟨ps,p1,p2,p3⟩:=apt (parts.toList.map (·.1)) ((parts.toList.map (·.2)).map a.eval) vs hl1 Bq;have avD:ps.length=len:=by have:=congrArg List.length p1;simp at this;rw[this,<-GZ];simp
 have aql:DT e (ps.map λx=>x.2.2.cells)=some xs:=by
  rw[<-avs];congr 1;have:(ps.map λx=>x.2.2.cells)=(ps.map λx=>(x.1,x.2.2)).map (λy=>y.2.cells):=by simp
  rw[this,p2];have h2:((parts.toList.map (·.1)).zip vs).map (λy=>y.2.cells)=(((parts.toList.map (·.1)).zip vs).map Prod.snd).map AV.cells:=by simp
  rw[h2,List.map_snd_zip (by rw[<-Bq,<-hl1];exact bh _)]
 have abh:(parts.map λ(i,x)=>(i,a.eval x)).toList=ps.map λx=>(x.1,x.2.1):=by rw[p1];apply cI;intro j;simp[List.zip_eq_zipWith]
 have hzs:z.cells.size=e.size:=by rw[<-qA e,<-hzc];simp
 let ap0:Array Value:=madeCells (if len*e.size=0 then #[] else z.cells) (len*e.size);have ha0:ap0.size=len*e.size:=size_madeCells _ _
 obtain⟨jv,aa5,aiu,xJ,FP,DH,hl'⟩:=X1 oX (e:=e) ps 0 ap0 [] [] xs
  (λj i v av hj=>by
   have h1:(ps.map λx=>(x.2.1,x.2.2))[j]?=some (v,av):=by simp[hj]
   rw[p3]at h1;simpa using h1)
  (λj i v av hj=>by
   have h1:(ps.map λx=>(x.1,x.2.1))[j]?=some (i,v):=by simp[hj]
   rw[p1]at h1;rw[List.getElem?_zip_eq_some]at h1;have h2:=h1.1;rw[List.getElem?_map]at h2;cases hq:parts.toList[j]? with|none=>rw[hq]at h2;cases h2|some q=>rw[hq]at h2;simp at h2;have:=JS Q0 j q.1 q.2 hq;omega) rfl (by rw[ha0,avD];simp) (by simpa using kT.nil _ _ _) (by simp) (by simp) aql
 have hxl:xs.length=len:=by have h1:=FP.1;rw[Array.length_toList,xJ,ha0,ch]at h1;exact(Nat.eq_of_mul_eq_mul_right e.size_pos h1).symm
 have avG:¬(16777216<len*e.size):=by have:len*e.size<=1000*4096:=Nat.mul_le_mul hlen hsm;omega
 have eU:(execOp a.eval o).run P w=.ok (.value (.slice (some ⟨w.heap.size,0,none⟩) len len)) (w.alloc (.cells jv te)):=by
  have Uw:Instr.fill (λi=>some (i*e.size,e.size)) ((Array.range (len*e.size)).map ((if len*e.size=0 then(#[]:Array Value) else z.cells)[·%(if len*e.size=0 then(#[]:Array Value) else z.cells).size]!)) (parts.map λ(i,x)=>(i,a.eval x)).toList=some jv:=by rw[abh];exact aiu
  by_cases h0:len*e.size=0;rw[aH h0]at Uw;simp only[execOp,ho,Instr.buildSlice,underlying,Sem.run_bind,run_program,hu,Result.andThen_ok,Sem.run_pure,sizeOf,typeInfo,DG,vB];rw[nX,aH h0];simp only[Sem.run_pure,Result.andThen_ok,Uw,newRow,Sem.run_bind,run_newObj];rfl;rw[aG h0]at Uw;simp only[execOp,ho,Instr.buildSlice,underlying,Sem.run_bind,run_program,hu,Result.andThen_ok,Sem.run_pure,sizeOf,typeInfo,DG,vB];rw[nX,aG h0];simp only[zeroValue,typeInfo,Sem.run_bind,run_program,DG,hz,Sem.run_pure,Result.andThen_ok,Uw,newRow,run_newObj];rfl
 refine⟨_,_,_,.inl eU,?_,hk⟩;have anW:kT g'.hw w e (jv.toList.take (xs.length*e.size)) xs aa5:=by rw[cd (by rw[Array.length_toList,xJ,ha0,hxl];exact bh _)];simpa using FP
 have:=oX.PE o.dst (T:=te) (fr:=(0,0)) (cap:=len) (.inl rfl) (by intro j _;simp) (by rw[xJ,ha0]) (by omega) anW DH (λb hb=>by obtain⟨j,hj⟩:=hl' b hb;rw[hj];rfl);rw[hxl]at this;exact this;cases hk;cases hk;cases hk
end Go.Dn
