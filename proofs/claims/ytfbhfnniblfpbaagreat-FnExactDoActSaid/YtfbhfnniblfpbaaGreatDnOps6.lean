import Derived.Test.YtfbhfnniblfpbaaGreatDnOps5
/- Part 6: structs and slices that are built; append. -/
namespace Go.Dn
open Go.RowKit
variable {P:Program} {C:Ctx} {st:AS} {a:Act} {w:World} {R:Type} {r:R}
variable {parts:Array (Nat×Operand)} {place:Nat->aw (Nat×Nat)} {T:TypeId} {hs:ar (Value×AV)}
theorem dw.eO:∀(xs:ar Operand){g:Gh}{st:AS}{hs:ar (Value×AV)},dw C g st a w hs->
 ∃g',dw C g' (eO st xs).2 a w (hs++(xs.map a.eval).zip (eO st xs).1)/\(eO st xs).1.length=xs.length/\(eO st xs).2.ep=st.ep
 |[],g,st,hs,h=>⟨g,by simpa[Dn.eO]using h,rfl,rfl⟩
 |x::xs,g,st,hs,h=>by obtain⟨g1,h1⟩:=h.take x;obtain⟨g2,h2,hl,xQ⟩:=dw.eO xs h1;refine⟨g2,?_,by simp[Dn.eO,hl],by simp only[Dn.eO];rw[xQ,Uf]⟩;simpa[Dn.eO]using h2
theorem Wj {α β:Type}(f:α->Sem β)(gf:α->β)(w:World):∀(l:ar α),(∀x∈l,(f x).run P w=.ok (gf x) w)->(l.mapM f).run P w=.ok (l.map gf) w
 |[],_=>by simp
 |x::l,h=>by rw[List.mapM_cons];simp only[Sem.run_bind,h x (by simp),Result.andThen_ok,Wj f gf w l (λy hy=>h y (ec _ hy)),Sem.run_pure,dZ]
theorem Fu {α β:Type}(f:α->Sem β)(gf:α->β)(w:World)(l:Array α)(h:∀x∈l,(f x).run P w=.ok (gf x) w):(l.mapM f).run P w=.ok (l.map gf) w:=by rw[Array.mapM_eq_mapM_toList,Sem.run_map,Wj f gf w l.toList (λx hx=>h x (by simpa using hx))];simp only[Result.andThen_ok,Result.ok.injEq,ig];apply ef;simp
theorem P6 (us:ic):∀(arr:Array Value)(off j:Nat),((us.zipIdx j).foldl (λcs (x:Value×Nat)=>cs.setIfInBounds (off+x.2) x.1) arr)=eC arr (off+j) us:=by induction us with|nil=>intro arr off j;rfl|cons u us ih=>intro arr off j;rw[List.zipIdx_cons,List.foldl_cons,ih];rfl
theorem Rc {cells:Array Value}{i:Nat}{v:Value}{rest:ar (Nat×Value)}{off:Nat}{us:ic}(hp:place i=some (off,us.length))(hv:v.cells.toList=us)(gF:off+us.length<=cells.size):Instr.fill place cells ((i,v)::rest)=Instr.fill place (eC cells off us) rest:=by
 have tu:v.cells.size=us.length:=by rw[<-hv];simp
 rw[Instr.fill,hp];simp only[tu];rw[aF (by simp;omega)];congr 1;have:v.cells=us.toArray:=by apply ef;simpa using hv
 rw[this];have h2:=P6 us cells off 0;rw[dL]at h2;rw[<-h2];rw[<-Array.foldl_toList];simp
theorem acZ {cs vs:ar AC}{off n:Nat}(h:vs.length=n):da cs off vs=cs.take off++vs++cs.drop (off+n):=by simp only[da];rw[h]
theorem NS {g:Gh}(h:dw C g st a w hs){jV:ar (Nat×Nat)}(CR:∀i fo n,jV[i]?=some (fo,n)->place i=some (fo,n)):
 ∀(parts:ar (Nat×Value×AV))(k:Nat)(arr:Array Value)(zs:ar AC)(fp:dV)(cs:ar AC),(∀j i v av,parts[j]?=some (i,v,av)->hs[k+j]?=some (v,av))->
  bn (cy C g st w) arr.toList zs fp->fp.Nodup->(∀b∈fp,∃j,j<k/\g.dJ b=some (.hand j))->
  xS jV zs (parts.map λx=>(x.1,x.2.2.cells))=some cs->
  ∃iV iu,Instr.fill place arr (parts.map λx=>(x.1,x.2.1))=some iV/\bn (cy C g st w) iV.toList cs iu/\iu.Nodup/\∀b∈iu,∃j,g.dJ b=some (.hand j)
 |[],k,arr,zs,fp,cs,_,hr,hn,hl,hb=>by simp[xS]at hb;subst hb;exact⟨arr,fp,rfl,hr,hn,λb hb=>let ⟨j,_,hj⟩:=hl b hb;⟨j,hj⟩⟩
 |(i,v,av)::parts,k,arr,zs,fp,cs,hp,hr,hn,hl,hb=>by
  simp only[dZ,xS,dA]at hb;split at hb;rename_i off n Qn;split at hb;rename_i hc;obtain⟨fh,Rk,Mf,Vg⟩:=h.hands k v av (by simpa using hp 0 i v av rfl);cases av with
  |vQ ts=>simp[AV.cells,AC.KC]at hc
  |val gg vs=>
   simp only[AV.cells]at hc hb;obtain⟨us,ee,Xe⟩:=Rk;have hul:=Xe.length;have h1:=Xe.nm hc.2.2;have DF:=La ee h1;have hal:=hr.length;have aqI:arr.size=zs.length:=by simpa using hal
   have gF:off+us.length<=arr.size:=by omega
   have ah9:place i=some (off,us.length):=by rw[CR i off n Qn];congr 2;omega
   obtain⟨f1,f2,f3,rfl,r1,r2,r3⟩:=hr.mid off us.length;have dC:bn (cy C g st w) (eC arr off us).toList (da zs off vs) (f1++fh++f3):=by rw[xh us arr off gF,acZ hul.symm];exact(r1.append Xe).append r3
   have Ap:∀b∈fh,b∉f1++f2++f3:=by intro b gH hm;obtain⟨j,hj,hlj⟩:=hl b hm;rw[Vg b gH]at hlj;simp at hlj;omega
   have BZ:=hn;rw[aN]at BZ;have n1:=aB.1 BZ;have n2:=aB.1 n1.2.1;have ah5:(f1++fh++f3).Nodup:=by rw[aN];refine aB.2 ⟨n1.1,aB.2 ⟨Mf,n2.2.1,?_⟩,?_⟩;rintro b gH c DX rfl;exact Ap b gH (by simp[DX]);rintro b gH c DX rfl;rcases az.1 DX with DX|DX;exact Ap b DX (by simp[gH]);exact n1.2.2 b gH b (ba _ DX) rfl
   obtain⟨iV,iu,hf,vu,agm,hl'⟩:=NS h CR parts (k+1) (eC arr off us) (da zs off vs) (f1++fh++f3) cs (λj i' v' Qe hj=>by have:=hp (j+1) i' v' Qe (by simpa using hj);rwa[show k+(j+1)=k+1+j by omega]at this) dC ah5 (λb gH=>by simp only[az]at gH;rcases gH with(gH|gH)|gH;obtain⟨j,hj,hlj⟩:=hl b (by simp[gH]);exact⟨j,by omega,hlj⟩;exact⟨k,by omega,Vg b gH⟩;obtain⟨j,hj,hlj⟩:=hl b (by simp[gH]);exact⟨j,by omega,hlj⟩) hb;refine⟨iV,iu,?_,vu,agm,hl'⟩;rw[dZ,Rc ah9 DF gF];exact hf
  cases hb;cases hb
theorem aiB {α β γ:Type}:∀(l:ar α)(m:ar β)(n:ar γ),l.length=m.length->m.length=n.length->
 ∃ps:ar (α×β×γ),ps.map (λx=>(x.1,x.2.1))=l.zip m/\ps.map (λx=>(x.1,x.2.2))=l.zip n/\ps.map (λx=>(x.2.1,x.2.2))=m.zip n
 |[],[],[],_,_=>⟨[],rfl,rfl,rfl⟩
 |x::l,y::m,z::n,h1,h2=>by obtain⟨ps,p1,p2,p3⟩:=aiB l m n (by simpa using h1) (by simpa using h2);exact⟨(x,y,z)::ps,by simp[p1],by simp[p2],by simp[p3]⟩
 |[],_::_,_,h,_=>by simp at h
 |_::_,[],_,h,_=>by simp at h
 |[],[],_::_,_,h=>by simp at h
 |_::_,_::_,[],_,h=>by simp at h
theorem Xz {E:Env}(hE:jm P E.ty){o:Oper}(ho:o.op=.build T parts)(h:nt C st a w){K:AS->aw R}(hk:DC E o T parts.toList st K=some r):mZ P C o a w K r:=by
 obtain⟨g,hg⟩:=h;unfold DC at hk;split at hk;rename_i ct jV hT;split at hk;rename_i vs st' tD;split at hk;rename_i cs hbc;obtain⟨g',mY,hlen,xQ⟩:=hg.eO (parts.toList.map (·.2));rw[tD]at mY hlen;simp only[bR]at mY hlen;have ko:=hE T _ hT;obtain⟨inf,z,Ea,tu,_,hz,hzc⟩:=ko.elem.info;obtain⟨fs,hu,Ig⟩:=ko.agg rfl;have ahR:=ko.count rfl fs hu;have agn:(fs.mapM λf=>do pure (f.offset,<-sizeOf f.type):Sem (Array (Nat×Nat))).run P w=.ok (fs.map λf=>(f.offset,P.cellsOf f.type)) w:=by refine Fu _ _ w fs (λf hf=>?_);obtain⟨i,hi,rfl⟩:=Array.mem_iff_getElem.1 hf;obtain⟨aqt,aiY⟩:=ahR i fs[i] (Array.getElem?_eq_getElem hi);simp[sizeOf,typeInfo,aiY,Program.cellsOf]
 have CR:∀(i fo n:Nat),jV[i]?=some (fo,n)->(λ(i:Nat)=>(fs.map λf=>(f.offset,P.cellsOf f.type))[i]?) i=some (fo,n):=by intro i fo n hi;obtain⟨fd,hfd,h1,_,aqt,h2,h3⟩:=Ig i fo n hi;simp only[Array.getElem?_map,hfd,dg,h1,Program.cellsOf,h2,h3,fy]
 have hzero:bn (cy C g' st' w) z.cells.toList (cellsOf ct (.own none) ct.zero) []:=by rw[hzc];exact sA (Hw _ _ _)
 have hl1:(parts.toList.map (·.1)).length=((parts.toList.map (·.2)).map a.eval).length:=by simp
 have Aq:((parts.toList.map (·.2)).map a.eval).length=vs.length:=by rw[hlen];simp
 obtain⟨ps,p1,p2,p3⟩:=aiB (parts.toList.map (·.1)) ((parts.toList.map (·.2)).map a.eval) vs hl1 Aq;have apX:xS jV (cellsOf ct (.own none) ct.zero) (ps.map λx=>(x.1,x.2.2.cells))=some cs:=by
  rw[<-hbc];congr 1;have:(ps.map λx=>(x.1,x.2.2.cells))=(ps.map λx=>(x.1,x.2.2)).map (λy=>(y.1,y.2.cells)):=by simp
  rw[this,p2,List.zip_map_right];simp
 obtain⟨iV,iu,ad6,dC,BZ,hl'⟩:=NS mY (place:=λ(i:Nat)=>(fs.map λf=>(f.offset,P.cellsOf f.type))[i]?) CR ps 0 z.cells _ [] cs
  (λj i v av hj=>by
   have h1:(ps.map λx=>(x.2.1,x.2.2))[j]?=some (v,av):=by simp[hj]
   rw[p3]at h1;simpa using h1) hzero (by simp) (by simp) apX
 have X8:(parts.map λ(i,x)=>(i,a.eval x)).toList=ps.map λx=>(x.1,x.2.1):=by rw[p1];apply cL;intro j;simp[List.zip_eq_zipWith]
 have dI:(execOp a.eval o).run P w=.ok (.value (.agg iV)) w:=by simp only[execOp,ho,Instr.build,zeroValue,typeInfo,underlying,Sem.run_bind,run_program,Ea,hz,hu,Result.andThen_ok,Sem.run_pure,agn,X8,ad6]
 refine⟨.agg iV,w,_,.inl dI,?_,hk⟩;exact mY.Pd o.dst rfl rfl rfl rfl (λt ht=>⟨ht,rfl⟩) (Fr.refl _ _) (λ_ _ _ _=>rfl) (λ_ _ _ ho hu=>⟨ho,hu⟩) ⟨iV.toList,by simp[Cut],dC⟩ BZ (λb hb=>by obtain⟨j,hj⟩:=hl' b hb;exact⟨(mY.fA b _ hj).1,.inl (by rw[hj];rfl)⟩);cases hk;cases hk
theorem VJ {g:Gh}(h:dw C g st a w hs){e:CT}:
 ∀(parts:ar (Nat×Value×AV))(k:Nat)(arr:Array Value)(xs:ar e.D)(fps:ar dV)(ys:ar e.D),(∀j i v av,parts[j]?=some (i,v,av)->hs[k+j]?=some (v,av))->
  (∀j i v av,parts[j]?=some (i,v,av)->i=k+j)->xs.length=k->arr.size=(k+parts.length)*e.size->
  kG g.hw w e (arr.toList.take (k*e.size)) xs fps->fps.flatten.Nodup->(∀b∈fps.flatten,∃j,j<k/\g.dJ b=some (.hand j))->
  Eh e (parts.map λx=>x.2.2.cells)=some ys->
  ∃iV XW,Instr.fill (λi=>some (i*e.size,e.size)) arr (parts.map λx=>(x.1,x.2.1))=some iV/\iV.size=arr.size/\kG g.hw w e iV.toList (xs++ys) XW/\XW.flatten.Nodup/\∀b∈XW.flatten,∃j,g.dJ b=some (.hand j)
 |[],k,arr,xs,fps,ys,_,_,hk,tu,GS,hn,hl,hb=>by simp[Eh]at hb;subst hb;have:arr.toList.take (k*e.size)=arr.toList:=bB (by simp at tu⊢;omega);rw[this]at GS;exact⟨arr,fps,rfl,rfl,by simpa using GS,hn,λb hb=>let ⟨j,_,hj⟩:=hl b hb;⟨j,hj⟩⟩
 |(i,v,av)::parts,k,arr,xs,fps,ys,hp,hi,hk,tu,GS,hn,hl,hb=>by
  simp only[dZ,Eh]at hb;split at hb;rename_i y hof;simp only[aL]at hb;obtain⟨zs,hzs,hyz⟩:=hb;simp at hyz;subst hyz;have hik:i=k:=by simpa using hi 0 i v av rfl
  subst hik;obtain⟨fh,Rk,Mf,Vg⟩:=h.hands i v av (by simpa using hp 0 i v av rfl);cases av with
  |vQ ts=>exfalso;revert hof;simp only[AV.cells];intro hof;have:=ox (c:=cy C g st w) (vs:=[undef]) (cs:=[.bot]) (fp:=[]) ⟨[],[],rfl,rfl,rfl⟩ hof;obtain⟨f1,f2,_,eR,_⟩:=this;have h1:=eo.nm eR undef (by cases hz:e.size with|zero=>have:=e.size_pos;omega|succ n=>simp);cases h1
  |val gg vs=>
   simp only[AV.cells]at hof;obtain⟨us,ee,Xe⟩:=Rk;obtain⟨f1,f2,ap5,eR,js⟩:=ox Xe hof;have Vd:us.drop e.size=[]/\f2=[]:=by cases hd:us.drop e.size with|nil=>rw[hd]at js;exact⟨rfl,js⟩|cons p q=>rw[hd]at js;exact js.elim
   have hul:us.length<=e.size:=by have:=Vd.1;rw[List.drop_eq_nil_iff]at this;exact this
   rw[bB hul]at eR;have aif:us.length=e.size:=eo.length eR;have h1:=eo.nm eR;have DF:=La ee h1;have abm:arr.size=i*e.size+(parts.length+1)*e.size:=by rw[tu,bC,cn]
   have hpe:e.size<=(parts.length+1)*e.size:=by rw[cn,dN];omega
   have gF:i*e.size+us.length<=arr.size:=by omega
   have Ql:fh=f1:=by rw[ap5,Vd.2,bp]
   subst Ql;have tD:(eC arr (i*e.size) us).toList.take ((i+1)*e.size)=arr.toList.take (i*e.size)++us:=by
    rw[xh us arr _ gF];have hl1:(arr.toList.take (i*e.size)++us).length=(i+1)*e.size:=by rw[au,bm,cn,dN,aif];simp;omega
    rw[List.take_append_of_le_length (by omega),bB (by omega)]
   have X7:kG g.hw w e us [y] [fh]:=by refine⟨by simp[aif],rfl,λj z f hz hf=>?_⟩;cases j with|zero=>simp at hz hf;subst hz;subst hf;rw[Nat.zero_mul,fa,bB (by omega)];exact eR|succ j=>simp at hz
   have ap2:kG g.hw w e ((eC arr (i*e.size) us).toList.take ((i+1)*e.size)) (xs++[y]) (fps++[fh]):=by rw[tD];exact GS.append X7
   have Ap:∀b∈fh,b∉fps.flatten:=by intro b gH hm;obtain⟨j,hj,hlj⟩:=hl b hm;rw[Vg b gH]at hlj;simp at hlj;omega
   obtain⟨iV,XW,hf,uv,ahS,CQ,Aq⟩:=VJ h parts (i+1) (eC arr (i*e.size) us) (xs++[y]) (fps++[fh]) zs (λj i' v' Qe hj=>by have:=hp (j+1) i' v' Qe (by simpa using hj);rwa[show i+(j+1)=i+1+j by omega]at this) (λj i' v' Qe hj=>by have:=hi (j+1) i' v' Qe (by simpa using hj);omega) (by simp[hk]) (by rw[iC,tu,bC];congr 1;omega) ap2 (by simp only[dM,List.flatten_cons,List.flatten_nil,bp];refine aB.2 ⟨hn,Mf,?_⟩;rintro b gH c DX rfl;exact Ap b DX gH) (λb gH=>by simp only[dM,List.flatten_cons,List.flatten_nil,bp,az]at gH;rcases gH with gH|gH;obtain⟨j,hj,hlj⟩:=hl b gH;exact⟨j,by omega,hlj⟩;exact⟨i,by omega,Vg b gH⟩) hzs;refine⟨iV,XW,?_,by rw[uv,iC],by simpa using ahS,CQ,Aq⟩;rw[dZ,Rc (by rw[aif]) DF gF];exact hf
  cases hb
theorem Kh:∀{n:Nat}{l:ar (Nat×Operand)},Kg n l=true->∀j i x,l[j]?=some (i,x)->i=n+j
 |_,[],_,j,i,x,h=>by simp at h
 |n,(m,y)::l,h,0,i,x,hj=>by simp only[Kg,ah,bD]at h;simp at hj;rw[<-hj.1];exact h.1
 |n,(m,y)::l,h,j+1,i,x,hj=>by simp only[Kg,ah,bD]at h;have:=Kh h.2 j i x (by simpa using hj);omega
theorem MR {E:Env}(hE:jm P E.ty){o:Oper}{len:Nat}(ho:o.op=.buildSlice T len parts)(h:nt C st a w){K:AS->aw R}(hk:lV E o T len parts.toList st K=some r):mZ P C o a w K r:=by
 obtain⟨g,hg⟩:=h;unfold lV at hk;split at hk;rename_i e hT;split at hk;rename_i hc;obtain⟨CR,JX,hlen⟩:=hc;split at hk;rename_i vs st' tD;split at hk;rename_i xs aqa;obtain⟨g',mY,hvl,xQ⟩:=hg.eO (parts.toList.map (·.2));rw[tD]at mY hvl;simp only[bR]at mY hvl;obtain⟨te,hu,⟨inf,z,Ea,tu,hby,hz,hzc⟩,hsm⟩:=Hj hE hT;have hl1:(parts.toList.map (·.1)).length=((parts.toList.map (·.2)).map a.eval).length:=by simp
 have Aq:((parts.toList.map (·.2)).map a.eval).length=vs.length:=by rw[hvl];simp
 obtain⟨ps,p1,p2,p3⟩:=aiB (parts.toList.map (·.1)) ((parts.toList.map (·.2)).map a.eval) vs hl1 Aq;have aqk:ps.length=len:=by have:=congrArg List.length p1;simp at this;rw[this,<-CR];simp
 have ai4:Eh e (ps.map λx=>x.2.2.cells)=some xs:=by
  rw[<-aqa];congr 1;have:(ps.map λx=>x.2.2.cells)=(ps.map λx=>(x.1,x.2.2)).map (λy=>y.2.cells):=by simp
  rw[this,p2];have h2:((parts.toList.map (·.1)).zip vs).map (λy=>y.2.cells)=(((parts.toList.map (·.1)).zip vs).map Prod.snd).map AV.cells:=by simp
  rw[h2,List.map_snd_zip (by rw[<-Aq,<-hl1];exact aU _)]
 have X8:(parts.map λ(i,x)=>(i,a.eval x)).toList=ps.map λx=>(x.1,x.2.1):=by rw[p1];apply cL;intro j;simp[List.zip_eq_zipWith]
 have hzs:z.cells.size=e.size:=by rw[<-pH e,<-hzc];simp
 let aiM:Array Value:=madeCells (if len*e.size=0 then #[] else z.cells) (len*e.size);have ha0:aiM.size=len*e.size:=size_madeCells _ _
 obtain⟨iV,XW,ad6,uv,GS,BZ,hl'⟩:=VJ mY (e:=e) ps 0 aiM [] [] xs
  (λj i v av hj=>by
   have h1:(ps.map λx=>(x.2.1,x.2.2))[j]?=some (v,av):=by simp[hj]
   rw[p3]at h1;simpa using h1)
  (λj i v av hj=>by
   have h1:(ps.map λx=>(x.1,x.2.1))[j]?=some (i,v):=by simp[hj]
   rw[p1]at h1;rw[List.getElem?_zip_eq_some]at h1;have h2:=h1.1;rw[List.getElem?_map]at h2;cases hq:parts.toList[j]? with|none=>rw[hq]at h2;cases h2|some q=>rw[hq]at h2;simp at h2;have:=Kh JX j q.1 q.2 hq;omega) rfl (by rw[ha0,aqk];simp) (by simpa using kG.nil _ _ _) (by simp) (by simp) ai4
 have hxl:xs.length=len:=by have h1:=GS.1;rw[Array.length_toList,uv,ha0,bR]at h1;exact(Nat.eq_of_mul_eq_mul_right e.size_pos h1).symm
 have aqn:¬(16777216<len*e.size):=by have:len*e.size<=1000*4096:=Nat.mul_le_mul hlen hsm;omega
 have dI:(execOp a.eval o).run P w=.ok (.value (.slice (some ⟨w.heap.size,0,none⟩) len len)) (w.alloc (.cells iV te)):=by
  have S3:Instr.fill (λi=>some (i*e.size,e.size)) ((Array.range (len*e.size)).map ((if len*e.size=0 then(#[]:Array Value) else z.cells)[·%(if len*e.size=0 then(#[]:Array Value) else z.cells).size]!)) (parts.map λ(i,x)=>(i,a.eval x)).toList=some iV:=by rw[X8];exact ad6
  by_cases h0:len*e.size=0;rw[aG h0]at S3;simp only[execOp,ho,Instr.buildSlice,underlying,Sem.run_bind,run_program,hu,Result.andThen_ok,Sem.run_pure,sizeOf,typeInfo,Ea,tu];rw[mG,aG h0];simp only[Sem.run_pure,Result.andThen_ok,S3,newRow,Sem.run_bind,run_newObj];rfl;rw[aF h0]at S3;simp only[execOp,ho,Instr.buildSlice,underlying,Sem.run_bind,run_program,hu,Result.andThen_ok,Sem.run_pure,sizeOf,typeInfo,Ea,tu];rw[mG,aF h0];simp only[zeroValue,typeInfo,Sem.run_bind,run_program,Ea,hz,Sem.run_pure,Result.andThen_ok,S3,newRow,run_newObj];rfl
 refine⟨_,_,_,.inl dI,?_,hk⟩;have ahS:kG g'.hw w e (iV.toList.take (xs.length*e.size)) xs XW:=by rw[bB (by rw[Array.length_toList,uv,ha0,hxl];exact aU _)];simpa using GS
 have:=mY.O2 o.dst (T:=te) (fr:=(0,0)) (cap:=len) (.inl rfl) (by intro j _;simp) (by rw[uv,ha0]) (by omega) ahS BZ (λb hb=>by obtain⟨j,hj⟩:=hl' b hb;rw[hj];rfl);rw[hxl]at this;exact this;cases hk;cases hk;cases hk
end Go.Dn
