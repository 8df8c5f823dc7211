import Derived.Test.YthllnaiaikjelaaGreatDnOps5
/- Part 6: structs and slices that are built; append. -/
namespace Go.Dn
open Go.RowKit
variable {P:Program} {C:Ctx} {st:AS} {a:Act} {w:World} {R:Type} {r:R}
variable {parts:Array (Nat×Operand)} {place:Nat->ar (Nat×Nat)} {T:TypeId} {hs:aq (Value×AV)}
theorem dr.eG:∀(xs:aq Operand){g:Gh}{st:AS}{hs:aq (Value×AV)},dr C g st a w hs->
 ∃g',dr C g' (eG st xs).2 a w (hs++(xs.map a.eval).zip (eG st xs).1)/\(eG st xs).1.length=xs.length/\(eG st xs).2.ep=st.ep
 |[],g,st,hs,h=>⟨g,by simpa[Dn.eG]using h,rfl,rfl⟩
 |x::xs,g,st,hs,h=>by obtain⟨g1,h1⟩:=h.take x;obtain⟨g2,h2,hl,xg⟩:=dr.eG xs h1;refine⟨g2,?_,by simp[Dn.eG,hl],by simp only[Dn.eG];rw[xg,TD]⟩;simpa[Dn.eG]using h2
theorem VN {α β:Type}(f:α->Sem β)(gf:α->β)(w:World):∀(l:aq α),(∀x∈l,(f x).run P w=.ok (gf x) w)->(l.mapM f).run P w=.ok (l.map gf) w
 |[],_=>by simp
 |x::l,h=>by rw[List.mapM_cons];simp only[Sem.run_bind,h x (by simp),Result.andThen_ok,VN f gf w l (λy hy=>h y (eH _ hy)),Sem.run_pure,dC]
theorem EY {α β:Type}(f:α->Sem β)(gf:α->β)(w:World)(l:Array α)(h:∀x∈l,(f x).run P w=.ok (gf x) w):(l.mapM f).run P w=.ok (l.map gf) w:=by rw[Array.mapM_eq_mapM_toList,Sem.run_map,VN f gf w l.toList (λx hx=>h x (by simpa using hx))];simp only[Result.andThen_ok,Result.ok.injEq,gQ];apply dV;simp
theorem PE (us:gO):∀(arr:Array Value)(off j:Nat),((us.zipIdx j).foldl (λcs (x:Value×Nat)=>cs.setIfInBounds (off+x.2) x.1) arr)=ef arr (off+j) us:=by induction us with|nil=>intro arr off j;rfl|cons u us ih=>intro arr off j;rw[List.zipIdx_cons,List.foldl_cons,ih];rfl
theorem QM {cells:Array Value}{i:Nat}{v:Value}{rest:aq (Nat×Value)}{off:Nat}{us:gO}(hp:place i=some (off,us.length))(hv:v.cells.toList=us)(gv:off+us.length<=cells.size):Instr.fill place cells ((i,v)::rest)=Instr.fill place (ef cells off us) rest:=by
 have sD:v.cells.size=us.length:=by rw[<-hv];simp
 rw[Instr.fill,hp];simp only[sD];rw[aG (by simp;omega)];congr 1;have:v.cells=us.toArray:=by apply dV;simpa using hv
 rw[this];have h2:=PE us cells off 0;rw[dF]at h2;rw[<-h2];rw[<-Array.foldl_toList];simp
theorem ab9 {cs vs:aq AC}{off n:Nat}(h:vs.length=n):cY cs off vs=cs.take off++vs++cs.drop (off+n):=by simp only[cY];rw[h]
theorem Nv {g:Gh}(h:dr C g st a w hs){jC:aq (Nat×Nat)}(Hk:∀i fo n,jC[i]?=some (fo,n)->place i=some (fo,n)):
 ∀(parts:aq (Nat×Value×AV))(k:Nat)(arr:Array Value)(zs:aq AC)(fp:dy)(cs:aq AC),(∀j i v av,parts[j]?=some (i,v,av)->hs[k+j]?=some (v,av))->
  bn (cv C g st w) arr.toList zs fp->fp.Nodup->(∀b∈fp,∃j,j<k/\g.dE b=some (.hand j))->
  xk jC zs (parts.map λx=>(x.1,x.2.2.cells))=some cs->
  ∃iG hZ,Instr.fill place arr (parts.map λx=>(x.1,x.2.1))=some iG/\bn (cv C g st w) iG.toList cs hZ/\hZ.Nodup/\∀b∈hZ,∃j,g.dE b=some (.hand j)
 |[],k,arr,zs,fp,cs,_,hr,hn,hl,hb=>by simp[xk]at hb;subst hb;exact⟨arr,fp,rfl,hr,hn,λb hb=>let ⟨j,_,hj⟩:=hl b hb;⟨j,hj⟩⟩
 |(i,v,av)::parts,k,arr,zs,fp,cs,hp,hr,hn,hl,hb=>by
  simp only[dC,xk,dv]at hb;split at hb;rename_i off n PZ;split at hb;rename_i hc;obtain⟨fh,QW,L2,UK⟩:=h.hands k v av (by simpa using hp 0 i v av rfl);cases av with
  |uT ts=>simp[AV.cells,AC.Kq]at hc
  |val gg vs=>
   simp only[AV.cells]at hc hb;obtain⟨us,dU,WH⟩:=QW;have hul:=WH.length;have h1:=WH.mD hc.2.2;have CU:=KY dU h1;have hal:=hr.length;have aqa:arr.size=zs.length:=by simpa using hal
   have gv:off+us.length<=arr.size:=by omega
   have aht:place i=some (off,us.length):=by rw[Hk i off n PZ];congr 2;omega
   obtain⟨f1,f2,f3,rfl,r1,r2,r3⟩:=hr.mid off us.length;have dx:bn (cv C g st w) (ef arr off us).toList (cY zs off vs) (f1++fh++f3):=by rw[wx us arr off gv,ab9 hul.symm];exact(r1.append WH).append r3
   have zB:∀b∈fh,b∉f1++f2++f3:=by intro b gA hm;obtain⟨j,hj,hlj⟩:=hl b hm;rw[UK b gA]at hlj;simp at hlj;omega
   have Ae:=hn;rw[aO]at Ae;have n1:=aB.1 Ae;have n2:=aB.1 n1.2.1;have ahp:(f1++fh++f3).Nodup:=by rw[aO];refine aB.2 ⟨n1.1,aB.2 ⟨L2,n2.2.1,?_⟩,?_⟩;rintro b gA c C9 rfl;exact zB b gA (by simp[C9]);rintro b gA c C9 rfl;rcases ay.1 C9 with C9|C9;exact zB b C9 (by simp[gA]);exact n1.2.2 b gA b (aX _ C9) rfl
   obtain⟨iG,hZ,hf,uC,afC,hl'⟩:=Nv h Hk parts (k+1) (ef arr off us) (cY zs off vs) (f1++fh++f3) cs (λj i' v' PO hj=>by have:=hp (j+1) i' v' PO (by simpa using hj);rwa[show k+(j+1)=k+1+j by omega]at this) dx ahp (λb gA=>by simp only[ay]at gA;rcases gA with(gA|gA)|gA;obtain⟨j,hj,hlj⟩:=hl b (by simp[gA]);exact⟨j,by omega,hlj⟩;exact⟨k,by omega,UK b gA⟩;obtain⟨j,hj,hlj⟩:=hl b (by simp[gA]);exact⟨j,by omega,hlj⟩) hb;refine⟨iG,hZ,?_,uC,afC,hl'⟩;rw[dC,QM aht CU gv];exact hf
  cases hb;cases hb
theorem ahV {α β γ:Type}:∀(l:aq α)(m:aq β)(n:aq γ),l.length=m.length->m.length=n.length->
 ∃ps:aq (α×β×γ),ps.map (λx=>(x.1,x.2.1))=l.zip m/\ps.map (λx=>(x.1,x.2.2))=l.zip n/\ps.map (λx=>(x.2.1,x.2.2))=m.zip n
 |[],[],[],_,_=>⟨[],rfl,rfl,rfl⟩
 |x::l,y::m,z::n,h1,h2=>by obtain⟨ps,p1,p2,p3⟩:=ahV l m n (by simpa using h1) (by simpa using h2);exact⟨(x,y,z)::ps,by simp[p1],by simp[p2],by simp[p3]⟩
 |[],_::_,_,h,_=>by simp at h
 |_::_,[],_,h,_=>by simp at h
 |[],[],_::_,_,h=>by simp at h
 |_::_,_::_,[],_,h=>by simp at h
theorem W3 {E:Env}(hE:iV P E.ty){o:Oper}(ho:o.op=.build T parts)(h:mM C st a w){K:AS->ar R}(hk:CP E o T parts.toList st K=some r):mq P C o a w K r:=by
 obtain⟨g,hg⟩:=h;unfold CP at hk;split at hk;rename_i ct jC hT;split at hk;rename_i vs st' sI;split at hk;rename_i cs hbc;obtain⟨g',ml,hlen,xg⟩:=hg.eG (parts.toList.map (·.2));rw[sI]at ml hlen;simp only[cp]at ml hlen;have jQ:=hE T _ hT;obtain⟨inf,z,Dr,sD,_,hz,hzc⟩:=jQ.elem.info;obtain⟨fs,hu,HP⟩:=jQ.agg rfl;have ahb:=jQ.count rfl fs hu;have afD:(fs.mapM λf=>do pure (f.offset,<-sizeOf f.type):Sem (Array (Nat×Nat))).run P w=.ok (fs.map λf=>(f.offset,P.cellsOf f.type)) w:=by refine EY _ _ w fs (λf hf=>?_);obtain⟨i,hi,rfl⟩:=Array.mem_iff_getElem.1 hf;obtain⟨apW,aii⟩:=ahb i fs[i] (Array.getElem?_eq_getElem hi);simp[sizeOf,typeInfo,aii,Program.cellsOf]
 have Hk:∀(i fo n:Nat),jC[i]?=some (fo,n)->(λ(i:Nat)=>(fs.map λf=>(f.offset,P.cellsOf f.type))[i]?) i=some (fo,n):=by intro i fo n hi;obtain⟨fd,hfd,h1,_,apW,h2,h3⟩:=HP i fo n hi;simp only[Array.getElem?_map,hfd,db,h1,Program.cellsOf,h2,h3,fb]
 have hzero:bn (cv C g' st' w) z.cells.toList (cellsOf ct (.own none) ct.zero) []:=by rw[hzc];exact rN (G2 _ _ _)
 have hl1:(parts.toList.map (·.1)).length=((parts.toList.map (·.2)).map a.eval).length:=by simp
 have zT:((parts.toList.map (·.2)).map a.eval).length=vs.length:=by rw[hlen];simp
 obtain⟨ps,p1,p2,p3⟩:=ahV (parts.toList.map (·.1)) ((parts.toList.map (·.2)).map a.eval) vs hl1 zT;have apo:xk jC (cellsOf ct (.own none) ct.zero) (ps.map λx=>(x.1,x.2.2.cells))=some cs:=by
  rw[<-hbc];congr 1;have:(ps.map λx=>(x.1,x.2.2.cells))=(ps.map λx=>(x.1,x.2.2)).map (λy=>(y.1,y.2.cells)):=by simp
  rw[this,p2,List.zip_map_right];simp
 obtain⟨iG,hZ,adh,dx,Ae,hl'⟩:=Nv ml (place:=λ(i:Nat)=>(fs.map λf=>(f.offset,P.cellsOf f.type))[i]?) Hk ps 0 z.cells _ [] cs
  (λj i v av hj=>by
   have h1:(ps.map λx=>(x.2.1,x.2.2))[j]?=some (v,av):=by simp[hj]
   rw[p3]at h1;simpa using h1) hzero (by simp) (by simp) apo
 have XC:(parts.map λ(i,x)=>(i,a.eval x)).toList=ps.map λx=>(x.1,x.2.1):=by rw[p1];apply cA;intro j;simp[List.zip_eq_zipWith]
 have dD:(execOp a.eval o).run P w=.ok (.value (.agg iG)) w:=by simp only[execOp,ho,Instr.build,zeroValue,typeInfo,underlying,Sem.run_bind,run_program,Dr,hz,hu,Result.andThen_ok,Sem.run_pure,afD,XC,adh]
 refine⟨.agg iG,w,_,.inl dD,?_,hk⟩;exact ml.OT o.dst rfl rfl rfl rfl (λt ht=>⟨ht,rfl⟩) (Fr.refl _ _) (λ_ _ _ _=>rfl) (λ_ _ _ ho hu=>⟨ho,hu⟩) ⟨iG.toList,by simp[Cut],dx⟩ Ae (λb hb=>by obtain⟨j,hj⟩:=hl' b hb;exact⟨(ml.ff b _ hj).1,.inl (by rw[hj];rfl)⟩);cases hk;cases hk
theorem Vc {g:Gh}(h:dr C g st a w hs){e:CT}:
 ∀(parts:aq (Nat×Value×AV))(k:Nat)(arr:Array Value)(xs:aq e.D)(fps:aq dy)(ys:aq e.D),(∀j i v av,parts[j]?=some (i,v,av)->hs[k+j]?=some (v,av))->
  (∀j i v av,parts[j]?=some (i,v,av)->i=k+j)->xs.length=k->arr.size=(k+parts.length)*e.size->
  ka g.hw w e (arr.toList.take (k*e.size)) xs fps->fps.flatten.Nodup->(∀b∈fps.flatten,∃j,j<k/\g.dE b=some (.hand j))->
  DE e (parts.map λx=>x.2.2.cells)=some ys->
  ∃iG Xr,Instr.fill (λi=>some (i*e.size,e.size)) arr (parts.map λx=>(x.1,x.2.1))=some iG/\iG.size=arr.size/\ka g.hw w e iG.toList (xs++ys) Xr/\Xr.flatten.Nodup/\∀b∈Xr.flatten,∃j,g.dE b=some (.hand j)
 |[],k,arr,xs,fps,ys,_,_,hk,sD,Gi,hn,hl,hb=>by simp[DE]at hb;subst hb;have:arr.toList.take (k*e.size)=arr.toList:=bI (by simp at sD⊢;omega);rw[this]at Gi;exact⟨arr,fps,rfl,rfl,by simpa using Gi,hn,λb hb=>let ⟨j,_,hj⟩:=hl b hb;⟨j,hj⟩⟩
 |(i,v,av)::parts,k,arr,xs,fps,ys,hp,hi,hk,sD,Gi,hn,hl,hb=>by
  simp only[dC,DE]at hb;split at hb;rename_i y Zu;simp only[aI]at hb;obtain⟨zs,hzs,hyz⟩:=hb;simp at hyz;subst hyz;have hik:i=k:=by simpa using hi 0 i v av rfl
  subst hik;obtain⟨fh,QW,L2,UK⟩:=h.hands i v av (by simpa using hp 0 i v av rfl);cases av with
  |uT ts=>exfalso;revert Zu;simp only[AV.cells];intro Zu;have:=nK (c:=cv C g st w) (vs:=[undef]) (cs:=[.bot]) (fp:=[]) ⟨[],[],rfl,rfl,rfl⟩ Zu;obtain⟨f1,f2,_,eK,_⟩:=this;have h1:=dY.mD eK undef (by cases hz:e.size with|zero=>have:=e.size_pos;omega|succ n=>simp);cases h1
  |val gg vs=>
   simp only[AV.cells]at Zu;obtain⟨us,dU,WH⟩:=QW;obtain⟨f1,f2,apx,eK,ja⟩:=nK WH Zu;have UH:us.drop e.size=[]/\f2=[]:=by cases hd:us.drop e.size with|nil=>rw[hd]at ja;exact⟨rfl,ja⟩|cons p q=>rw[hd]at ja;exact ja.elim
   have hul:us.length<=e.size:=by have:=UH.1;rw[List.drop_eq_nil_iff]at this;exact this
   rw[bI hul]at eK;have ahz:us.length=e.size:=dY.length eK;have h1:=dY.mD eK;have CU:=KY dU h1;have aaJ:arr.size=i*e.size+(parts.length+1)*e.size:=by rw[sD,cf,bZ]
   have hpe:e.size<=(parts.length+1)*e.size:=by rw[bZ,dL];omega
   have gv:i*e.size+us.length<=arr.size:=by omega
   have PX:fh=f1:=by rw[apx,UH.2,bt]
   subst PX;have sI:(ef arr (i*e.size) us).toList.take ((i+1)*e.size)=arr.toList.take (i*e.size)++us:=by
    rw[wx us arr _ gv];have hl1:(arr.toList.take (i*e.size)++us).length=(i+1)*e.size:=by rw[au,bm,bZ,dL,ahz];simp;omega
    rw[List.take_append_of_le_length (by omega),bI (by omega)]
   have XB:ka g.hw w e us [y] [fh]:=by refine⟨by simp[ahz],rfl,λj z f hz hf=>?_⟩;cases j with|zero=>simp at hz hf;subst hz;subst hf;rw[Nat.zero_mul,fj,bI (by omega)];exact eK|succ j=>simp at hz
   have apu:ka g.hw w e ((ef arr (i*e.size) us).toList.take ((i+1)*e.size)) (xs++[y]) (fps++[fh]):=by rw[sI];exact Gi.append XB
   have zB:∀b∈fh,b∉fps.flatten:=by intro b gA hm;obtain⟨j,hj,hlj⟩:=hl b hm;rw[UK b gA]at hlj;simp at hlj;omega
   obtain⟨iG,Xr,hf,tB,ahc,B6,zT⟩:=Vc h parts (i+1) (ef arr (i*e.size) us) (xs++[y]) (fps++[fh]) zs (λj i' v' PO hj=>by have:=hp (j+1) i' v' PO (by simpa using hj);rwa[show i+(j+1)=i+1+j by omega]at this) (λj i' v' PO hj=>by have:=hi (j+1) i' v' PO (by simpa using hj);omega) (by simp[hk]) (by rw[ik,sD,cf];congr 1;omega) apu (by simp only[dI,List.flatten_cons,List.flatten_nil,bt];refine aB.2 ⟨hn,L2,?_⟩;rintro b gA c C9 rfl;exact zB b C9 gA) (λb gA=>by simp only[dI,List.flatten_cons,List.flatten_nil,bt,ay]at gA;rcases gA with gA|gA;obtain⟨j,hj,hlj⟩:=hl b gA;exact⟨j,by omega,hlj⟩;exact⟨i,by omega,UK b gA⟩) hzs;refine⟨iG,Xr,?_,by rw[tB,ik],by simpa using ahc,B6,zT⟩;rw[dC,QM (by rw[ahz]) CU gv];exact hf
  cases hb
theorem J5:∀{n:Nat}{l:aq (Nat×Operand)},J4 n l=true->∀j i x,l[j]?=some (i,x)->i=n+j
 |_,[],_,j,i,x,h=>by simp at h
 |n,(m,y)::l,h,0,i,x,hj=>by simp only[J4,ah,bk]at h;simp at hj;rw[<-hj.1];exact h.1
 |n,(m,y)::l,h,j+1,i,x,hj=>by simp only[J4,ah,bk]at h;have:=J5 h.2 j i x (by simpa using hj);omega
theorem Mx {E:Env}(hE:iV P E.ty){o:Oper}{len:Nat}(ho:o.op=.buildSlice T len parts)(h:mM C st a w){K:AS->ar R}(hk:kX E o T len parts.toList st K=some r):mq P C o a w K r:=by
 obtain⟨g,hg⟩:=h;unfold kX at hk;split at hk;rename_i e hT;split at hk;rename_i hc;obtain⟨Hk,JJ,hlen⟩:=hc;split at hk;rename_i vs st' sI;split at hk;rename_i xs apC;obtain⟨g',ml,hvl,xg⟩:=hg.eG (parts.toList.map (·.2));rw[sI]at ml hvl;simp only[cp]at ml hvl;obtain⟨te,hu,⟨inf,z,Dr,sD,hby,hz,hzc⟩,hsm⟩:=GJ hE hT;have hl1:(parts.toList.map (·.1)).length=((parts.toList.map (·.2)).map a.eval).length:=by simp
 have zT:((parts.toList.map (·.2)).map a.eval).length=vs.length:=by rw[hvl];simp
 obtain⟨ps,p1,p2,p3⟩:=ahV (parts.toList.map (·.1)) ((parts.toList.map (·.2)).map a.eval) vs hl1 zT;have apN:ps.length=len:=by have:=congrArg List.length p1;simp at this;rw[this,<-Hk];simp
 have aio:DE e (ps.map λx=>x.2.2.cells)=some xs:=by
  rw[<-apC];congr 1;have:(ps.map λx=>x.2.2.cells)=(ps.map λx=>(x.1,x.2.2)).map (λy=>y.2.cells):=by simp
  rw[this,p2];have h2:((parts.toList.map (·.1)).zip vs).map (λy=>y.2.cells)=(((parts.toList.map (·.1)).zip vs).map Prod.snd).map AV.cells:=by simp
  rw[h2,List.map_snd_zip (by rw[<-zT,<-hl1];exact bc _)]
 have XC:(parts.map λ(i,x)=>(i,a.eval x)).toList=ps.map λx=>(x.1,x.2.1):=by rw[p1];apply cA;intro j;simp[List.zip_eq_zipWith]
 have hzs:z.cells.size=e.size:=by rw[<-oI e,<-hzc];simp
 let ah5:Array Value:=madeCells (if len*e.size=0 then #[] else z.cells) (len*e.size);have ha0:ah5.size=len*e.size:=size_madeCells _ _
 obtain⟨iG,Xr,adh,tB,Gi,Ae,hl'⟩:=Vc ml (e:=e) ps 0 ah5 [] [] xs
  (λj i v av hj=>by
   have h1:(ps.map λx=>(x.2.1,x.2.2))[j]?=some (v,av):=by simp[hj]
   rw[p3]at h1;simpa using h1)
  (λj i v av hj=>by
   have h1:(ps.map λx=>(x.1,x.2.1))[j]?=some (i,v):=by simp[hj]
   rw[p1]at h1;rw[List.getElem?_zip_eq_some]at h1;have h2:=h1.1;rw[List.getElem?_map]at h2;cases hq:parts.toList[j]? with|none=>rw[hq]at h2;cases h2|some q=>rw[hq]at h2;simp at h2;have:=J5 JJ j q.1 q.2 hq;omega) rfl (by rw[ha0,apN];simp) (by simpa using ka.nil _ _ _) (by simp) (by simp) aio
 have hxl:xs.length=len:=by have h1:=Gi.1;rw[Array.length_toList,tB,ha0,cp]at h1;exact(Nat.eq_of_mul_eq_mul_right e.size_pos h1).symm
 have apQ:¬(16777216<len*e.size):=by have:len*e.size<=1000*4096:=Nat.mul_le_mul hlen hsm;omega
 have dD:(execOp a.eval o).run P w=.ok (.value (.slice (some ⟨w.heap.size,0,none⟩) len len)) (w.alloc (.cells iG te)):=by
  have Sy:Instr.fill (λi=>some (i*e.size,e.size)) ((Array.range (len*e.size)).map ((if len*e.size=0 then(#[]:Array Value) else z.cells)[·%(if len*e.size=0 then(#[]:Array Value) else z.cells).size]!)) (parts.map λ(i,x)=>(i,a.eval x)).toList=some iG:=by rw[XC];exact adh
  by_cases h0:len*e.size=0;rw[aH h0]at Sy;simp only[execOp,ho,Instr.buildSlice,underlying,Sem.run_bind,run_program,hu,Result.andThen_ok,Sem.run_pure,sizeOf,typeInfo,Dr,sD];rw[mL,aH h0];simp only[Sem.run_pure,Result.andThen_ok,Sy,newRow,Sem.run_bind,run_newObj];rfl;rw[aG h0]at Sy;simp only[execOp,ho,Instr.buildSlice,underlying,Sem.run_bind,run_program,hu,Result.andThen_ok,Sem.run_pure,sizeOf,typeInfo,Dr,sD];rw[mL,aG h0];simp only[zeroValue,typeInfo,Sem.run_bind,run_program,Dr,hz,Sem.run_pure,Result.andThen_ok,Sy,newRow,run_newObj];rfl
 refine⟨_,_,_,.inl dD,?_,hk⟩;have ahc:ka g'.hw w e (iG.toList.take (xs.length*e.size)) xs Xr:=by rw[bI (by rw[Array.length_toList,tB,ha0,hxl];exact bc _)];simpa using Gi
 have:=ml.OG o.dst (T:=te) (fr:=(0,0)) (cap:=len) (.inl rfl) (by intro j _;simp) (by rw[tB,ha0]) (by omega) ahc Ae (λb hb=>by obtain⟨j,hj⟩:=hl' b hb;rw[hj];rfl);rw[hxl]at this;exact this;cases hk;cases hk;cases hk
end Go.Dn
