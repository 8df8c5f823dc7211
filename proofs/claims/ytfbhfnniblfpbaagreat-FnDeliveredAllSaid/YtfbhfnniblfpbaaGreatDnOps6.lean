import Derived.Test.YtfbhfnniblfpbaaGreatDnOps5
/- Part 6: structs and slices that are built; append. -/
namespace Go.Dn
open Go.RowKit
variable {P:Program} {C:Ctx} {st:AS} {a:Act} {w:World} {R:Type} {r:R}
variable {parts:Array (Nat×Operand)} {place:Nat->ax (Nat×Nat)} {T:TypeId} {hs:au (Value×AV)}
theorem dN.eM:∀(xs:au Operand){g:Gh}{st:AS}{hs:au (Value×AV)},dN C g st a w hs->
 ∃g',dN C g' (eM st xs).2 a w (hs++(xs.map a.eval).zip (eM st xs).1)/\(eM st xs).1.length=xs.length/\(eM st xs).2.ep=st.ep
 |[],g,st,hs,h=>⟨g,by simpa[Dn.eM]using h,rfl,rfl⟩
 |x::xs,g,st,hs,h=>by obtain⟨g1,h1⟩:=h.take x;obtain⟨g2,h2,hl,zM⟩:=dN.eM xs h1;refine⟨g2,?_,by simp[Dn.eM,hl],by simp only[Dn.eM];rw[zM,Ts]⟩;simpa[Dn.eM]using h2
theorem VL {α β:Type}(f:α->Sem β)(gf:α->β)(w:World):∀(l:au α),(∀x∈l,(f x).run P w=.ok (gf x) w)->(l.mapM f).run P w=.ok (l.map gf) w
 |[],_=>by simp
 |x::l,h=>by rw[List.mapM_cons];simp only[Sem.run_bind,h x (by simp),Result.andThen_ok,VL f gf w l (λy hy=>h y (dK _ hy)),Sem.run_pure,List.map_cons]
theorem Ed {α β:Type}(f:α->Sem β)(gf:α->β)(w:World)(l:Array α)(h:∀x∈l,(f x).run P w=.ok (gf x) w):(l.mapM f).run P w=.ok (l.map gf) w:=by rw[Array.mapM_eq_mapM_toList,Sem.run_map,VL f gf w l.toList (λx hx=>h x (by simpa using hx))];simp only[Result.andThen_ok,Result.ok.injEq,iH];apply eO;simp
theorem Pe (us:ie):∀(arr:Array Value)(off j:Nat),((us.zipIdx j).foldl (λcs (x:Value×Nat)=>cs.setIfInBounds (off+x.2) x.1) arr)=eC arr (off+j) us:=by induction us with|nil=>intro arr off j;rfl|cons u us ih=>intro arr off j;rw[List.zipIdx_cons,List.foldl_cons,ih];rfl
theorem Qs {cells:Array Value}{i:Nat}{v:Value}{rest:au (Nat×Value)}{off:Nat}{us:ie}(hp:place i=some (off,us.length))(hv:v.cells.toList=us)(gy:off+us.length<=cells.size):Instr.fill place cells ((i,v)::rest)=Instr.fill place (eC cells off us) rest:=by
 have uq:v.cells.size=us.length:=by rw[<-hv];simp
 rw[Instr.fill,hp];simp only[uq];rw[aH (by simp;omega)];congr 1;have:v.cells=us.toArray:=by apply eO;simpa using hv
 rw[this];have h2:=Pe us cells off 0;rw[eh]at h2;rw[<-h2];rw[<-Array.foldl_toList];simp
theorem acj {cs vs:au AC}{off n:Nat}(h:vs.length=n):dZ cs off vs=cs.take off++vs++cs.drop (off+n):=by simp only[dZ];rw[h]
theorem MX {g:Gh}(h:dN C g st a w hs){kb:au (Nat×Nat)}(BD:∀i fo n,kb[i]?=some (fo,n)->place i=some (fo,n)):
 ∀(parts:au (Nat×Value×AV))(k:Nat)(arr:Array Value)(zs:au AC)(fp:eo)(cs:au AC),(∀j i v av,parts[j]?=some (i,v,av)->hs[k+j]?=some (v,av))->
  bE (cQ C g st w) arr.toList zs fp->fp.Nodup->(∀b∈fp,∃j,j<k/\g.ej b=some (.hand j))->
  xA kb zs (parts.map λx=>(x.1,x.2.2.cells))=some cs->
  ∃jb jL,Instr.fill place arr (parts.map λx=>(x.1,x.2.1))=some jb/\bE (cQ C g st w) jb.toList cs jL/\jL.Nodup/\∀b∈jL,∃j,g.ej b=some (.hand j)
 |[],k,arr,zs,fp,cs,_,hr,hn,hl,hb=>by simp[xA]at hb;subst hb;exact⟨arr,fp,rfl,hr,hn,λb hb=>let ⟨j,_,hj⟩:=hl b hb;⟨j,hj⟩⟩
 |(i,v,av)::parts,k,arr,zs,fp,cs,hp,hr,hn,hl,hb=>by
  simp only[List.map_cons,xA,dJ]at hb;split at hb;rename_i off n Px;split at hb;rename_i hc;obtain⟨fh,QC,Ph,UA⟩:=h.hands k v av (by simpa using hp 0 i v av rfl);cases av with
  |xn ts=>simp[AV.cells,AC.Jz]at hc
  |val gg vs=>
   simp only[AV.cells]at hc hb;obtain⟨us,eR,WA⟩:=QC;have hul:=WA.length;have h1:=WA.ni hc.2.2;have CJ:=Kb eR h1;have hal:=hr.length;have aoW:arr.size=zs.length:=by simpa using hal
   have gy:off+us.length<=arr.size:=by omega
   have aho:place i=some (off,us.length):=by rw[BD i off n Px];congr 2;omega
   obtain⟨f1,f2,f3,rfl,r1,r2,r3⟩:=hr.mid off us.length;have ed:bE (cQ C g st w) (eC arr off us).toList (dZ zs off vs) (f1++fh++f3):=by rw[wG us arr off gy,acj hul.symm];exact(r1.append WA).append r3
   have EW:∀b∈fh,b∉f1++f2++f3:=by intro b gQ hm;obtain⟨j,hj,hlj⟩:=hl b hm;rw[UA b gQ]at hlj;simp at hlj;omega
   have Dc:=hn;rw[aZ]at Dc;have n1:=aJ.1 Dc;have n2:=aJ.1 n1.2.1;have ahk:(f1++fh++f3).Nodup:=by rw[aZ];refine aJ.2 ⟨n1.1,aJ.2 ⟨Ph,n2.2.1,?_⟩,?_⟩;rintro b gQ c Bw rfl;exact EW b gQ (by simp[Bw]);rintro b gQ c Bw rfl;rcases aA.1 Bw with Bw|Bw;exact EW b Bw (by simp[gQ]);exact n1.2.2 b gQ b (bk _ Bw) rfl
   obtain⟨jb,jL,hf,vn,aor,hl'⟩:=MX h BD parts (k+1) (eC arr off us) (dZ zs off vs) (f1++fh++f3) cs (λj i' v' Pm hj=>by have:=hp (j+1) i' v' Pm (by simpa using hj);rwa[show k+(j+1)=k+1+j by omega]at this) ed ahk (λb gQ=>by simp only[aA]at gQ;rcases gQ with(gQ|gQ)|gQ;obtain⟨j,hj,hlj⟩:=hl b (by simp[gQ]);exact⟨j,by omega,hlj⟩;exact⟨k,by omega,UA b gQ⟩;obtain⟨j,hj,hlj⟩:=hl b (by simp[gQ]);exact⟨j,by omega,hlj⟩) hb;refine⟨jb,jL,?_,vn,aor,hl'⟩;rw[List.map_cons,Qs aho CJ gy];exact hf
  cases hb;cases hb
theorem ahV {α β γ:Type}:∀(l:au α)(m:au β)(n:au γ),l.length=m.length->m.length=n.length->
 ∃ps:au (α×β×γ),ps.map (λx=>(x.1,x.2.1))=l.zip m/\ps.map (λx=>(x.1,x.2.2))=l.zip n/\ps.map (λx=>(x.2.1,x.2.2))=m.zip n
 |[],[],[],_,_=>⟨[],rfl,rfl,rfl⟩
 |x::l,y::m,z::n,h1,h2=>by obtain⟨ps,p1,p2,p3⟩:=ahV l m n (by simpa using h1) (by simpa using h2);exact⟨(x,y,z)::ps,by simp[p1],by simp[p2],by simp[p3]⟩
 |[],_::_,_,h,_=>by simp at h
 |_::_,[],_,h,_=>by simp at h
 |[],[],_::_,_,h=>by simp at h
 |_::_,_::_,[],_,h=>by simp at h
theorem WZ {E:Env}(hE:jA P E.ty){o:Oper}(ho:o.op=.build T parts)(h:oz C st a w){K:AS->ax R}(hk:CE E o T parts.toList st K=some r):mW P C o a w K r:=by
 obtain⟨g,hg⟩:=h;unfold CE at hk;split at hk;rename_i ct kb hT;split at hk;rename_i vs bM tI;split at hk;rename_i cs hbc;obtain⟨g',oy,hlen,zM⟩:=hg.eM (parts.toList.map (·.2));rw[tI]at oy hlen;simp only[bO]at oy hlen;have jY:=hE T _ hT;obtain⟨inf,z,Db,uq,_,hz,hzc⟩:=jY.elem.info;obtain⟨fs,hu,H9⟩:=jY.agg rfl;have ag6:=jY.count rfl fs hu;have aft:(fs.mapM λf=>do pure (f.offset,<-sizeOf f.type):Sem (Array (Nat×Nat))).run P w=.ok (fs.map λf=>(f.offset,P.cellsOf f.type)) w:=by refine Ed _ _ w fs (λf hf=>?_);obtain⟨i,hi,rfl⟩:=Array.mem_iff_getElem.1 hf;obtain⟨aoH,aip⟩:=ag6 i fs[i] (Array.getElem?_eq_getElem hi);simp[sizeOf,typeInfo,aip,Program.cellsOf]
 have BD:∀(i fo n:Nat),kb[i]?=some (fo,n)->(λ(i:Nat)=>(fs.map λf=>(f.offset,P.cellsOf f.type))[i]?) i=some (fo,n):=by intro i fo n hi;obtain⟨fd,hfd,h1,_,aoH,h2,h3⟩:=H9 i fo n hi;simp only[Array.getElem?_map,hfd,dk,h1,Program.cellsOf,h2,h3,fj]
 have hzero:bE (cQ C g' bM w) z.cells.toList (cellsOf ct (.own none) ct.zero) []:=by rw[hzc];exact vw (F8 _ _ _)
 have hl1:(parts.toList.map (·.1)).length=((parts.toList.map (·.2)).map a.eval).length:=by simp
 have Af:((parts.toList.map (·.2)).map a.eval).length=vs.length:=by rw[hlen];simp
 obtain⟨ps,p1,p2,p3⟩:=ahV (parts.toList.map (·.1)) ((parts.toList.map (·.2)).map a.eval) vs hl1 Af;have aoc:xA kb (cellsOf ct (.own none) ct.zero) (ps.map λx=>(x.1,x.2.2.cells))=some cs:=by
  rw[<-hbc];congr 1;have:(ps.map λx=>(x.1,x.2.2.cells))=(ps.map λx=>(x.1,x.2.2)).map (λy=>(y.1,y.2.cells)):=by simp
  rw[this,p2,List.zip_map_right];simp
 obtain⟨jb,jL,adj,ed,Dc,hl'⟩:=MX oy (place:=λ(i:Nat)=>(fs.map λf=>(f.offset,P.cellsOf f.type))[i]?) BD ps 0 z.cells _ [] cs
  (λj i v av hj=>by
   have h1:(ps.map λx=>(x.2.1,x.2.2))[j]?=some (v,av):=by simp[hj]
   rw[p3]at h1;simpa using h1) hzero (by simp) (by simp) aoc
 have Xs:(parts.map λ(i,x)=>(i,a.eval x)).toList=ps.map λx=>(x.1,x.2.1):=by rw[p1];apply cS;intro j;simp[List.zip_eq_zipWith]
 have dX:(execOp a.eval o).run P w=.ok (.value (.agg jb)) w:=by simp only[execOp,ho,Instr.build,zeroValue,typeInfo,underlying,Sem.run_bind,run_program,Db,hz,hu,Result.andThen_ok,Sem.run_pure,aft,Xs,adj]
 refine⟨.agg jb,w,_,.inl dX,?_,hk⟩;exact oy.On o.dst rfl rfl rfl rfl (λt ht=>⟨ht,rfl⟩) (Fr.refl _ _) (λ_ _ _ _=>rfl) (λ_ _ _ ho hu=>⟨ho,hu⟩) ⟨jb.toList,by simp[Cut],ed⟩ Dc (λb hb=>by obtain⟨j,hj⟩:=hl' b hb;exact⟨(oy.fR b _ hj).1,.inl (by rw[hj];rfl)⟩);cases hk;cases hk
theorem U6 {g:Gh}(h:dN C g st a w hs){e:CT}:
 ∀(parts:au (Nat×Value×AV))(k:Nat)(arr:Array Value)(xs:au e.D)(fps:au eo)(ys:au e.D),(∀j i v av,parts[j]?=some (i,v,av)->hs[k+j]?=some (v,av))->
  (∀j i v av,parts[j]?=some (i,v,av)->i=k+j)->xs.length=k->arr.size=(k+parts.length)*e.size->
  kH g.hw w e (arr.toList.take (k*e.size)) xs fps->fps.flatten.Nodup->(∀b∈fps.flatten,∃j,j<k/\g.ej b=some (.hand j))->
  Dk e (parts.map λx=>x.2.2.cells)=some ys->
  ∃jb Xh,Instr.fill (λi=>some (i*e.size,e.size)) arr (parts.map λx=>(x.1,x.2.1))=some jb/\jb.size=arr.size/\kH g.hw w e jb.toList (xs++ys) Xh/\Xh.flatten.Nodup/\∀b∈Xh.flatten,∃j,g.ej b=some (.hand j)
 |[],k,arr,xs,fps,ys,_,_,hk,uq,Fo,hn,hl,hb=>by simp[Dk]at hb;subst hb;have:arr.toList.take (k*e.size)=arr.toList:=bL (by simp at uq⊢;omega);rw[this]at Fo;exact⟨arr,fps,rfl,rfl,by simpa using Fo,hn,λb hb=>let ⟨j,_,hj⟩:=hl b hb;⟨j,hj⟩⟩
 |(i,v,av)::parts,k,arr,xs,fps,ys,hp,hi,hk,uq,Fo,hn,hl,hb=>by
  simp only[List.map_cons,Dk]at hb;split at hb;rename_i y hof;simp only[aO]at hb;obtain⟨zs,hzs,hyz⟩:=hb;simp at hyz;subst hyz;have hik:i=k:=by simpa using hi 0 i v av rfl
  subst hik;obtain⟨fh,QC,Ph,UA⟩:=h.hands i v av (by simpa using hp 0 i v av rfl);cases av with
  |xn ts=>exfalso;revert hof;simp only[AV.cells];intro hof;have:=rK (c:=cQ C g st w) (vs:=[undef]) (cs:=[.bot]) (fp:=[]) ⟨[],[],rfl,rfl,rfl⟩ hof;obtain⟨f1,f2,_,fU,_⟩:=this;have h1:=eP.ni fU undef (by cases hz:e.size with|zero=>have:=e.size_pos;omega|succ n=>simp);cases h1
  |val gg vs=>
   simp only[AV.cells]at hof;obtain⟨us,eR,WA⟩:=QC;obtain⟨f1,f2,aoj,fU,mU⟩:=rK WA hof;have Uu:us.drop e.size=[]/\f2=[]:=by cases hd:us.drop e.size with|nil=>rw[hd]at mU;exact⟨rfl,mU⟩|cons p q=>rw[hd]at mU;exact mU.elim
   have hul:us.length<=e.size:=by have:=Uu.1;rw[List.drop_eq_nil_iff]at this;exact this
   rw[bL hul]at fU;have ahu:us.length=e.size:=eP.length fU;have h1:=eP.ni fU;have CJ:=Kb eR h1;have aaI:arr.size=i*e.size+(parts.length+1)*e.size:=by rw[uq,bZ,cB]
   have hpe:e.size<=(parts.length+1)*e.size:=by rw[cB,eI];omega
   have gy:i*e.size+us.length<=arr.size:=by omega
   have Pt:fh=f1:=by rw[aoj,Uu.2,bA]
   subst Pt;have tI:(eC arr (i*e.size) us).toList.take ((i+1)*e.size)=arr.toList.take (i*e.size)++us:=by
    rw[wG us arr _ gy];have hl1:(arr.toList.take (i*e.size)++us).length=(i+1)*e.size:=by rw[aq,bq,cB,eI,ahu];simp;omega
    rw[List.take_append_of_le_length (by omega),bL (by omega)]
   have Xr:kH g.hw w e us [y] [fh]:=by refine⟨by simp[ahu],rfl,λj z f hz hf=>?_⟩;cases j with|zero=>simp at hz hf;subst hz;subst hf;rw[Nat.zero_mul,eG,bL (by omega)];exact fU|succ j=>simp at hz
   have aog:kH g.hw w e ((eC arr (i*e.size) us).toList.take ((i+1)*e.size)) (xs++[y]) (fps++[fh]):=by rw[tI];exact Fo.append Xr
   have EW:∀b∈fh,b∉fps.flatten:=by intro b gQ hm;obtain⟨j,hj,hlj⟩:=hl b hm;rw[UA b gQ]at hlj;simp at hlj;omega
   obtain⟨jb,Xh,hf,uo,ag7,E1,Af⟩:=U6 h parts (i+1) (eC arr (i*e.size) us) (xs++[y]) (fps++[fh]) zs (λj i' v' Pm hj=>by have:=hp (j+1) i' v' Pm (by simpa using hj);rwa[show i+(j+1)=i+1+j by omega]at this) (λj i' v' Pm hj=>by have:=hi (j+1) i' v' Pm (by simpa using hj);omega) (by simp[hk]) (by rw[iz,uq,bZ];congr 1;omega) aog (by simp only[dR,List.flatten_cons,List.flatten_nil,bA];refine aJ.2 ⟨hn,Ph,?_⟩;rintro b gQ c Bw rfl;exact EW b Bw gQ) (λb gQ=>by simp only[dR,List.flatten_cons,List.flatten_nil,bA,aA]at gQ;rcases gQ with gQ|gQ;obtain⟨j,hj,hlj⟩:=hl b gQ;exact⟨j,by omega,hlj⟩;exact⟨i,by omega,UA b gQ⟩) hzs;refine⟨jb,Xh,?_,by rw[uo,iz],by simpa using ag7,E1,Af⟩;rw[List.map_cons,Qs (by rw[ahu]) CJ gy];exact hf
  cases hb
theorem I5:∀{n:Nat}{l:au (Nat×Operand)},I4 n l=true->∀j i x,l[j]?=some (i,x)->i=n+j
 |_,[],_,j,i,x,h=>by simp at h
 |n,(m,y)::l,h,0,i,x,hj=>by simp only[I4,ah,bw]at h;simp at hj;rw[<-hj.1];exact h.1
 |n,(m,y)::l,h,j+1,i,x,hj=>by simp only[I4,ah,bw]at h;have:=I5 h.2 j i x (by simpa using hj);omega
theorem L1 {E:Env}(hE:jA P E.ty){o:Oper}{len:Nat}(ho:o.op=.buildSlice T len parts)(h:oz C st a w){K:AS->ax R}(hk:lQ E o T len parts.toList st K=some r):mW P C o a w K r:=by
 obtain⟨g,hg⟩:=h;unfold lQ at hk;split at hk;rename_i e hT;split at hk;rename_i hc;obtain⟨BD,Nz,hlen⟩:=hc;split at hk;rename_i vs bM tI;split at hk;rename_i xs aoo;obtain⟨g',oy,hvl,zM⟩:=hg.eM (parts.toList.map (·.2));rw[tI]at oy hvl;simp only[bO]at oy hvl;obtain⟨te,hu,⟨inf,z,Db,uq,hby,hz,hzc⟩,hsm⟩:=FU hE hT;have hl1:(parts.toList.map (·.1)).length=((parts.toList.map (·.2)).map a.eval).length:=by simp
 have Af:((parts.toList.map (·.2)).map a.eval).length=vs.length:=by rw[hvl];simp
 obtain⟨ps,p1,p2,p3⟩:=ahV (parts.toList.map (·.1)) ((parts.toList.map (·.2)).map a.eval) vs hl1 Af;have aoy:ps.length=len:=by have:=congrArg List.length p1;simp at this;rw[this,<-BD];simp
 have aiv:Dk e (ps.map λx=>x.2.2.cells)=some xs:=by
  rw[<-aoo];congr 1;have:(ps.map λx=>x.2.2.cells)=(ps.map λx=>(x.1,x.2.2)).map (λy=>y.2.cells):=by simp
  rw[this,p2];have h2:((parts.toList.map (·.1)).zip vs).map (λy=>y.2.cells)=(((parts.toList.map (·.1)).zip vs).map Prod.snd).map AV.cells:=by simp
  rw[h2,List.map_snd_zip (by rw[<-Af,<-hl1];exact aU _)]
 have Xs:(parts.map λ(i,x)=>(i,a.eval x)).toList=ps.map λx=>(x.1,x.2.1):=by rw[p1];apply cS;intro j;simp[List.zip_eq_zipWith]
 have hzs:z.cells.size=e.size:=by rw[<-qb e,<-hzc];simp
 let ah7:Array Value:=madeCells (if len*e.size=0 then #[] else z.cells) (len*e.size);have ha0:ah7.size=len*e.size:=size_madeCells _ _
 obtain⟨jb,Xh,adj,uo,Fo,Dc,hl'⟩:=U6 oy (e:=e) ps 0 ah7 [] [] xs
  (λj i v av hj=>by
   have h1:(ps.map λx=>(x.2.1,x.2.2))[j]?=some (v,av):=by simp[hj]
   rw[p3]at h1;simpa using h1)
  (λj i v av hj=>by
   have h1:(ps.map λx=>(x.1,x.2.1))[j]?=some (i,v):=by simp[hj]
   rw[p1]at h1;rw[List.getElem?_zip_eq_some]at h1;have h2:=h1.1;rw[List.getElem?_map]at h2;cases hq:parts.toList[j]? with|none=>rw[hq]at h2;cases h2|some q=>rw[hq]at h2;simp at h2;have:=I5 Nz j q.1 q.2 hq;omega) rfl (by rw[ha0,aoy];simp) (by simpa using kH.nil _ _ _) (by simp) (by simp) aiv
 have hxl:xs.length=len:=by have h1:=Fo.1;rw[Array.length_toList,uo,ha0,bO]at h1;exact(Nat.eq_of_mul_eq_mul_right e.size_pos h1).symm
 have aoB:¬(16777216<len*e.size):=by have:len*e.size<=1000*4096:=Nat.mul_le_mul hlen hsm;omega
 have dX:(execOp a.eval o).run P w=.ok (.value (.slice (some ⟨w.heap.size,0,none⟩) len len)) (w.alloc (.cells jb te)):=by
  have Sl:Instr.fill (λi=>some (i*e.size,e.size)) ((Array.range (len*e.size)).map ((if len*e.size=0 then(#[]:Array Value) else z.cells)[·%(if len*e.size=0 then(#[]:Array Value) else z.cells).size]!)) (parts.map λ(i,x)=>(i,a.eval x)).toList=some jb:=by rw[Xs];exact adj
  by_cases h0:len*e.size=0;rw[aF h0]at Sl;simp only[execOp,ho,Instr.buildSlice,underlying,Sem.run_bind,run_program,hu,Result.andThen_ok,Sem.run_pure,sizeOf,typeInfo,Db,uq];rw[mQ,aF h0];simp only[Sem.run_pure,Result.andThen_ok,Sl,newRow,Sem.run_bind,run_newObj];rfl;rw[aH h0]at Sl;simp only[execOp,ho,Instr.buildSlice,underlying,Sem.run_bind,run_program,hu,Result.andThen_ok,Sem.run_pure,sizeOf,typeInfo,Db,uq];rw[mQ,aH h0];simp only[zeroValue,typeInfo,Sem.run_bind,run_program,Db,hz,Sem.run_pure,Result.andThen_ok,Sl,newRow,run_newObj];rfl
 refine⟨_,_,_,.inl dX,?_,hk⟩;have ag7:kH g'.hw w e (jb.toList.take (xs.length*e.size)) xs Xh:=by rw[bL (by rw[Array.length_toList,uo,ha0,hxl];exact aU _)];simpa using Fo
 have:=oy.Oc o.dst (T:=te) (fr:=(0,0)) (cap:=len) (.inl rfl) (by intro j _;simp) (by rw[uo,ha0]) (by omega) ag7 Dc (λb hb=>by obtain⟨j,hj⟩:=hl' b hb;rw[hj];rfl);rw[hxl]at this;exact this;cases hk;cases hk;cases hk
end Go.Dn
