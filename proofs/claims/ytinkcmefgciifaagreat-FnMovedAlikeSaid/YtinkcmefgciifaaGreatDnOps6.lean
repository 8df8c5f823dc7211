import Derived.Test.YtinkcmefgciifaaGreatDnOps5
/- Part 6: structs and slices that are built; append. -/
namespace Go.Dn
open Go.RowKit
variable {P:Program} {C:Ctx} {st:AS} {a:Act} {w:World} {R:Type} {r:R}
variable {parts:Array (Nat×Operand)} {place:Nat->ay (Nat×Nat)} {T:TypeId} {hs:ax (Value×AV)}
theorem dP.eS:∀(xs:ax Operand){g:Gh}{st:AS}{hs:ax (Value×AV)},dP C g st a w hs->
 ∃g',dP C g' (eS st xs).2 a w (hs++(xs.map a.eval).zip (eS st xs).1)/\(eS st xs).1.length=xs.length/\(eS st xs).2.ep=st.ep
 |[],g,st,hs,h=>⟨g,by simpa[Dn.eS]using h,rfl,rfl⟩
 |x::xs,g,st,hs,h=>by obtain⟨g1,h1⟩:=h.take x;obtain⟨g2,h2,hl,xh⟩:=dP.eS xs h1;refine⟨g2,?_,by simp[Dn.eS,hl],by simp only[Dn.eS];rw[xh,QE]⟩;simpa[Dn.eS]using h2
theorem Tl {α β:Type}(f:α->Sem β)(gf:α->β)(w:World):∀(l:ax α),(∀x∈l,(f x).run P w=.ok (gf x) w)->(l.mapM f).run P w=.ok (l.map gf) w
 |[],_=>by simp
 |x::l,h=>by rw[List.mapM_cons];simp only[Sem.run_bind,h x (by simp),Result.andThen_ok,Tl f gf w l (λy hy=>h y (eT _ hy)),Sem.run_pure,cS]
theorem BB {α β:Type}(f:α->Sem β)(gf:α->β)(w:World)(l:Array α)(h:∀x∈l,(f x).run P w=.ok (gf x) w):(l.mapM f).run P w=.ok (l.map gf) w:=by rw[Array.mapM_eq_mapM_toList,Sem.run_map,Tl f gf w l.toList (λx hx=>h x (by simpa using hx))];simp only[Result.andThen_ok,Result.ok.injEq,iI];apply eU;simp
theorem Mj (us:iG):∀(arr:Array Value)(off j:Nat),((us.zipIdx j).foldl (λcs (x:Value×Nat)=>cs.setIfInBounds (off+x.2) x.1) arr)=eF arr (off+j) us:=by induction us with|nil=>intro arr off j;rfl|cons u us ih=>intro arr off j;rw[List.zipIdx_cons,List.foldl_cons,ih];rfl
theorem Nt {cells:Array Value}{i:Nat}{v:Value}{rest:ax (Nat×Value)}{off:Nat}{us:iG}(hp:place i=some (off,us.length))(hv:v.cells.toList=us)(gF:off+us.length<=cells.size):Instr.fill place cells ((i,v)::rest)=Instr.fill place (eF cells off us) rest:=by
 have tH:v.cells.size=us.length:=by rw[<-hv];simp
 rw[Instr.fill,hp];simp only[tH];rw[aI (by simp;omega)];congr 1;have:v.cells=us.toArray:=by apply eU;simpa using hv
 rw[this];have h2:=Mj us cells off 0;rw[dT]at h2;rw[<-h2];rw[<-Array.foldl_toList];simp
theorem aa3 {cs vs:ax AC}{off n:Nat}(h:vs.length=n):dZ cs off vs=cs.take off++vs++cs.drop (off+n):=by simp only[dZ];rw[h]
theorem Ka {g:Gh}(h:dP C g st a w hs){jJ:ax (Nat×Nat)}(DC:∀i fo n,jJ[i]?=some (fo,n)->place i=some (fo,n)):
 ∀(parts:ax (Nat×Value×AV))(k:Nat)(arr:Array Value)(zs:ax AC)(fp:fy)(cs:ax AC),(∀j i v av,parts[j]?=some (i,v,av)->hs[k+j]?=some (v,av))->
  bD (cM C g st w) arr.toList zs fp->fp.Nodup->(∀b∈fp,∃j,j<k/\g.ej b=some (.hand j))->
  vg jJ zs (parts.map λx=>(x.1,x.2.2.cells))=some cs->
  ∃iU jZ,Instr.fill place arr (parts.map λx=>(x.1,x.2.1))=some iU/\bD (cM C g st w) iU.toList cs jZ/\jZ.Nodup/\∀b∈jZ,∃j,g.ej b=some (.hand j)
 |[],k,arr,zs,fp,cs,_,hr,hn,hl,hb=>by simp[vg]at hb;subst hb;exact⟨arr,fp,rfl,hr,hn,λb hb=>let ⟨j,_,hj⟩:=hl b hb;⟨j,hj⟩⟩
 |(i,v,av)::parts,k,arr,zs,fp,cs,hp,hr,hn,hl,hb=>by
  simp only[cS,vg,dK]at hb;split at hb;rename_i off n MC;split at hb;rename_i hc;obtain⟨fh,NH,Mm,RT⟩:=h.hands k v av (by simpa using hp 0 i v av rfl);cases av with
  |uW ts=>simp[AV.cells,AC.GN]at hc
  |val gg vs=>
   simp only[AV.cells]at hc hb;obtain⟨us,fj,T6⟩:=NH;have hul:=T6.length;have h1:=T6.mN hc.2.2;have Aa:=Hn fj h1;have hal:=hr.length;have ao8:arr.size=zs.length:=by simpa using hal
   have gF:off+us.length<=arr.size:=by omega
   have ahQ:place i=some (off,us.length):=by rw[DC i off n MC];congr 2;omega
   obtain⟨f1,f2,f3,rfl,r1,r2,r3⟩:=hr.mid off us.length;have eQ:bD (cM C g st w) (eF arr off us).toList (dZ zs off vs) (f1++fh++f3):=by rw[uw us arr off gF,aa3 hul.symm];exact(r1.append T6).append r3
   have B6:∀b∈fh,b∉f1++f2++f3:=by intro b gX hm;obtain⟨j,hj,hlj⟩:=hl b hm;rw[RT b gX]at hlj;simp at hlj;omega
   have BX:=hn;rw[aR]at BX;have n1:=aJ.1 BX;have n2:=aJ.1 n1.2.1;have ahM:(f1++fh++f3).Nodup:=by rw[aR];refine aJ.2 ⟨n1.1,aJ.2 ⟨Mm,n2.2.1,?_⟩,?_⟩;rintro b gX c xz rfl;exact B6 b gX (by simp[xz]);rintro b gX c xz rfl;rcases az.1 xz with xz|xz;exact B6 b xz (by simp[gX]);exact n1.2.2 b gX b (bj _ xz) rfl
   obtain⟨iU,jZ,hf,vf,aop,Zi⟩:=Ka h DC parts (k+1) (eF arr off us) (dZ zs off vs) (f1++fh++f3) cs (λj i' v' Mp hj=>by have:=hp (j+1) i' v' Mp (by simpa using hj);rwa[show k+(j+1)=k+1+j by omega]at this) eQ ahM (λb gX=>by simp only[az]at gX;rcases gX with(gX|gX)|gX;obtain⟨j,hj,hlj⟩:=hl b (by simp[gX]);exact⟨j,by omega,hlj⟩;exact⟨k,by omega,RT b gX⟩;obtain⟨j,hj,hlj⟩:=hl b (by simp[gX]);exact⟨j,by omega,hlj⟩) hb;refine⟨iU,jZ,?_,vf,aop,Zi⟩;rw[cS,Nt ahQ Aa gF];exact hf
  cases hb;cases hb
theorem aiU {α β γ:Type}:∀(l:ax α)(m:ax β)(n:ax γ),l.length=m.length->m.length=n.length->
 ∃ps:ax (α×β×γ),ps.map (λx=>(x.1,x.2.1))=l.zip m/\ps.map (λx=>(x.1,x.2.2))=l.zip n/\ps.map (λx=>(x.2.1,x.2.2))=m.zip n
 |[],[],[],_,_=>⟨[],rfl,rfl,rfl⟩
 |x::l,y::m,z::n,h1,h2=>by obtain⟨ps,p1,p2,p3⟩:=aiU l m n (by simpa using h1) (by simpa using h2);exact⟨(x,y,z)::ps,by simp[p1],by simp[p2],by simp[p3]⟩
 |[],_::_,_,h,_=>by simp at h
 |_::_,[],_,h,_=>by simp at h
 |[],[],_::_,_,h=>by simp at h
 |_::_,_::_,[],_,h=>by simp at h
theorem Ur {E:Env}(hE:jk P E.ty){o:Oper}(ho:o.op=.build T parts)(h:ij C st a w){K:AS->ay R}(hk:zV E o T parts.toList st K=some r):mz P C o a w K r:=by
 obtain⟨g,hg⟩:=h;unfold zV at hk;split at hk;rename_i ct jJ hT;split at hk;rename_i vs bN rK;split at hk;rename_i cs hbc;obtain⟨g',nE,hlen,xh⟩:=hg.eS (parts.toList.map (·.2));rw[rK]at nE hlen;simp only[cG]at nE hlen;have mB:=hE T _ hT;obtain⟨inf,z,Aw,tH,_,hz,hzc⟩:=mB.elem.info;obtain⟨fs,hu,Fk⟩:=mB.agg rfl;have ahx:=mB.count rfl fs hu;have afq:(fs.mapM λf=>do pure (f.offset,<-sizeOf f.type):Sem (Array (Nat×Nat))).run P w=.ok (fs.map λf=>(f.offset,P.cellsOf f.type)) w:=by refine BB _ _ w fs (λf hf=>?_);obtain⟨i,hi,rfl⟩:=Array.mem_iff_getElem.1 hf;obtain⟨aoF,ajJ⟩:=ahx i fs[i] (Array.getElem?_eq_getElem hi);simp[sizeOf,typeInfo,ajJ,Program.cellsOf]
 have DC:∀(i fo n:Nat),jJ[i]?=some (fo,n)->(λ(i:Nat)=>(fs.map λf=>(f.offset,P.cellsOf f.type))[i]?) i=some (fo,n):=by intro i fo n hi;obtain⟨fd,hfd,h1,_,aoF,h2,h3⟩:=Fk i fo n hi;simp only[Array.getElem?_map,hfd,de,h1,Program.cellsOf,h2,h3,fC]
 have hzero:bD (cM C g' bN w) z.cells.toList (cellsOf ct (.own none) ct.zero) []:=by rw[hzc];exact yt (Dk _ _ _)
 have hl1:(parts.toList.map (·.1)).length=((parts.toList.map (·.2)).map a.eval).length:=by simp
 have yn:((parts.toList.map (·.2)).map a.eval).length=vs.length:=by rw[hlen];simp
 obtain⟨ps,p1,p2,p3⟩:=aiU (parts.toList.map (·.1)) ((parts.toList.map (·.2)).map a.eval) vs hl1 yn;have an9:vg jJ (cellsOf ct (.own none) ct.zero) (ps.map λx=>(x.1,x.2.2.cells))=some cs:=by
  rw[<-hbc];congr 1;have:(ps.map λx=>(x.1,x.2.2.cells))=(ps.map λx=>(x.1,x.2.2)).map (λy=>(y.1,y.2.cells)):=by simp
  rw[this,p2,List.zip_map_right];simp
 obtain⟨iU,jZ,acL,eQ,BX,Zi⟩:=Ka nE (place:=λ(i:Nat)=>(fs.map λf=>(f.offset,P.cellsOf f.type))[i]?) DC ps 0 z.cells _ [] cs
  (λj i v av hj=>by
   have h1:(ps.map λx=>(x.2.1,x.2.2))[j]?=some (v,av):=by simp[hj]
   rw[p3]at h1;simpa using h1) hzero (by simp) (by simp) an9
 have Vw:(parts.map λ(i,x)=>(i,a.eval x)).toList=ps.map λx=>(x.1,x.2.1):=by rw[p1];apply cA;intro j;simp[List.zip_eq_zipWith]
 have ed:(execOp a.eval o).run P w=.ok (.value (.agg iU)) w:=by simp only[execOp,ho,Instr.build,zeroValue,typeInfo,underlying,Sem.run_bind,run_program,Aw,hz,hu,Result.andThen_ok,Sem.run_pure,afq,Vw,acL]
 refine⟨.agg iU,w,_,.inl ed,?_,hk⟩;exact nE.LB o.dst rfl rfl rfl rfl (λt ht=>⟨ht,rfl⟩) (Fr.refl _ _) (λ_ _ _ _=>rfl) (λ_ _ _ ho hu=>⟨ho,hu⟩) ⟨iU.toList,by simp[Cut],eQ⟩ BX (λb hb=>by obtain⟨j,hj⟩:=Zi b hb;exact⟨(nE.fY b _ hj).1,.inl (by rw[hj];rfl)⟩);cases hk;cases hk
theorem Sz {g:Gh}(h:dP C g st a w hs){e:CT}:
 ∀(parts:ax (Nat×Value×AV))(k:Nat)(arr:Array Value)(xs:ax e.D)(fps:ax fy)(ys:ax e.D),(∀j i v av,parts[j]?=some (i,v,av)->hs[k+j]?=some (v,av))->
  (∀j i v av,parts[j]?=some (i,v,av)->i=k+j)->xs.length=k->arr.size=(k+parts.length)*e.size->
  kt g.hw w e (arr.toList.take (k*e.size)) xs fps->fps.flatten.Nodup->(∀b∈fps.flatten,∃j,j<k/\g.ej b=some (.hand j))->
  AF e (parts.map λx=>x.2.2.cells)=some ys->
  ∃iU Vi,Instr.fill (λi=>some (i*e.size,e.size)) arr (parts.map λx=>(x.1,x.2.1))=some iU/\iU.size=arr.size/\kt g.hw w e iU.toList (xs++ys) Vi/\Vi.flatten.Nodup/\∀b∈Vi.flatten,∃j,g.ej b=some (.hand j)
 |[],k,arr,xs,fps,ys,_,_,hk,tH,CC,hn,hl,hb=>by simp[AF]at hb;subst hb;have:arr.toList.take (k*e.size)=arr.toList:=bI (by simp at tH⊢;omega);rw[this]at CC;exact⟨arr,fps,rfl,rfl,by simpa using CC,hn,λb hb=>let ⟨j,_,hj⟩:=hl b hb;⟨j,hj⟩⟩
 |(i,v,av)::parts,k,arr,xs,fps,ys,hp,hi,hk,tH,CC,hn,hl,hb=>by
  simp only[cS,AF]at hb;split at hb;rename_i y hof;simp only[aO]at hb;obtain⟨zs,hzs,hyz⟩:=hb;simp at hyz;subst hyz;have hik:i=k:=by simpa using hi 0 i v av rfl
  subst hik;obtain⟨fh,NH,Mm,RT⟩:=h.hands i v av (by simpa using hp 0 i v av rfl);cases av with
  |uW ts=>exfalso;revert hof;simp only[AV.cells];intro hof;have:=wN (c:=cM C g st w) (vs:=[undef]) (cs:=[.bot]) (fp:=[]) ⟨[],[],rfl,rfl,rfl⟩ hof;obtain⟨f1,f2,_,gO,_⟩:=this;have h1:=fg.mN gO undef (by cases hz:e.size with|zero=>have:=e.size_pos;omega|succ n=>simp);cases h1
  |val gg vs=>
   simp only[AV.cells]at hof;obtain⟨us,fj,T6⟩:=NH;obtain⟨f1,f2,aog,gO,tq⟩:=wN T6 hof;have RO:us.drop e.size=[]/\f2=[]:=by cases hd:us.drop e.size with|nil=>rw[hd]at tq;exact⟨rfl,tq⟩|cons p q=>rw[hd]at tq;exact tq.elim
   have hul:us.length<=e.size:=by have:=RO.1;rw[List.drop_eq_nil_iff]at this;exact this
   rw[bI hul]at gO;have ahW:us.length=e.size:=fg.length gO;have h1:=fg.mN gO;have Aa:=Hn fj h1;have Zn:arr.size=i*e.size+(parts.length+1)*e.size:=by rw[tH,bz,cB]
   have hpe:e.size<=(parts.length+1)*e.size:=by rw[cB,ff];omega
   have gF:i*e.size+us.length<=arr.size:=by omega
   have Mx:fh=f1:=by rw[aog,RO.2,bS]
   subst Mx;have rK:(eF arr (i*e.size) us).toList.take ((i+1)*e.size)=arr.toList.take (i*e.size)++us:=by
    rw[uw us arr _ gF];have hl1:(arr.toList.take (i*e.size)++us).length=(i+1)*e.size:=by rw[ai,aW,cB,ff,ahW];simp;omega
    rw[List.take_append_of_le_length (by omega),bI (by omega)]
   have Vv:kt g.hw w e us [y] [fh]:=by refine⟨by simp[ahW],rfl,λj z f hz hf=>?_⟩;cases j with|zero=>simp at hz hf;subst hz;subst hf;rw[Nat.zero_mul,eZ,bI (by omega)];exact gO|succ j=>simp at hz
   have aod:kt g.hw w e ((eF arr (i*e.size) us).toList.take ((i+1)*e.size)) (xs++[y]) (fps++[fh]):=by rw[rK];exact CC.append Vv
   have B6:∀b∈fh,b∉fps.flatten:=by intro b gX hm;obtain⟨j,hj,hlj⟩:=hl b hm;rw[RT b gX]at hlj;simp at hlj;omega
   obtain⟨iU,Vi,hf,xi,ahy,Cc,yn⟩:=Sz h parts (i+1) (eF arr (i*e.size) us) (xs++[y]) (fps++[fh]) zs (λj i' v' Mp hj=>by have:=hp (j+1) i' v' Mp (by simpa using hj);rwa[show i+(j+1)=i+1+j by omega]at this) (λj i' v' Mp hj=>by have:=hi (j+1) i' v' Mp (by simpa using hj);omega) (by simp[hk]) (by rw[iz,tH,bz];congr 1;omega) aod (by simp only[dV,List.flatten_cons,List.flatten_nil,bS];refine aJ.2 ⟨hn,Mm,?_⟩;rintro b gX c xz rfl;exact B6 b xz gX) (λb gX=>by simp only[dV,List.flatten_cons,List.flatten_nil,bS,az]at gX;rcases gX with gX|gX;obtain⟨j,hj,hlj⟩:=hl b gX;exact⟨j,by omega,hlj⟩;exact⟨i,by omega,RT b gX⟩) hzs;refine⟨iU,Vi,?_,by rw[xi,iz],by simpa using ahy,Cc,yn⟩;rw[cS,Nt (by rw[ahW]) Aa gF];exact hf
  cases hb
theorem Gf:∀{n:Nat}{l:ax (Nat×Operand)},Ge n l=true->∀j i x,l[j]?=some (i,x)->i=n+j
 |_,[],_,j,i,x,h=>by simp at h
 |n,(m,y)::l,h,0,i,x,hj=>by simp only[Ge,ae,aV]at h;simp at hj;rw[<-hj.1];exact h.1
 |n,(m,y)::l,h,j+1,i,x,hj=>by simp only[Ge,ae,aV]at h;have:=Gf h.2 j i x (by simpa using hj);omega
theorem Jn {E:Env}(hE:jk P E.ty){o:Oper}{len:Nat}(ho:o.op=.buildSlice T len parts)(h:ij C st a w){K:AS->ay R}(hk:lD E o T len parts.toList st K=some r):mz P C o a w K r:=by
 obtain⟨g,hg⟩:=h;unfold lD at hk;split at hk;rename_i e hT;split at hk;rename_i hc;obtain⟨DC,MB,hlen⟩:=hc;split at hk;rename_i vs bN rK;split at hk;rename_i xs aom;obtain⟨g',nE,hvl,xh⟩:=hg.eS (parts.toList.map (·.2));rw[rK]at nE hvl;simp only[cG]at nE hvl;obtain⟨te,hu,⟨inf,z,Aw,tH,hby,hz,hzc⟩,hsm⟩:=C4 hE hT;have hl1:(parts.toList.map (·.1)).length=((parts.toList.map (·.2)).map a.eval).length:=by simp
 have yn:((parts.toList.map (·.2)).map a.eval).length=vs.length:=by rw[hvl];simp
 obtain⟨ps,p1,p2,p3⟩:=aiU (parts.toList.map (·.1)) ((parts.toList.map (·.2)).map a.eval) vs hl1 yn;have aow:ps.length=len:=by have:=congrArg List.length p1;simp at this;rw[this,<-DC];simp
 have ajP:AF e (ps.map λx=>x.2.2.cells)=some xs:=by
  rw[<-aom];congr 1;have:(ps.map λx=>x.2.2.cells)=(ps.map λx=>(x.1,x.2.2)).map (λy=>y.2.cells):=by simp
  rw[this,p2];have h2:((parts.toList.map (·.1)).zip vs).map (λy=>y.2.cells)=(((parts.toList.map (·.1)).zip vs).map Prod.snd).map AV.cells:=by simp
  rw[h2,List.map_snd_zip (by rw[<-yn,<-hl1];exact aS _)]
 have Vw:(parts.map λ(i,x)=>(i,a.eval x)).toList=ps.map λx=>(x.1,x.2.1):=by rw[p1];apply cA;intro j;simp[List.zip_eq_zipWith]
 have hzs:z.cells.size=e.size:=by rw[<-oT e,<-hzc];simp
 let ajr:Array Value:=madeCells (if len*e.size=0 then #[] else z.cells) (len*e.size);have ha0:ajr.size=len*e.size:=size_madeCells _ _
 obtain⟨iU,Vi,acL,xi,CC,BX,Zi⟩:=Sz nE (e:=e) ps 0 ajr [] [] xs
  (λj i v av hj=>by
   have h1:(ps.map λx=>(x.2.1,x.2.2))[j]?=some (v,av):=by simp[hj]
   rw[p3]at h1;simpa using h1)
  (λj i v av hj=>by
   have h1:(ps.map λx=>(x.1,x.2.1))[j]?=some (i,v):=by simp[hj]
   rw[p1]at h1;rw[List.getElem?_zip_eq_some]at h1;have h2:=h1.1;rw[List.getElem?_map]at h2;cases hq:parts.toList[j]? with|none=>rw[hq]at h2;cases h2|some q=>rw[hq]at h2;simp at h2;have:=Gf MB j q.1 q.2 hq;omega) rfl (by rw[ha0,aow];simp) (by simpa using kt.nil _ _ _) (by simp) (by simp) ajP
 have hxl:xs.length=len:=by have h1:=CC.1;rw[Array.length_toList,xi,ha0,cG]at h1;exact(Nat.eq_of_mul_eq_mul_right e.size_pos h1).symm
 have aoz:¬(16777216<len*e.size):=by have:len*e.size<=1000*4096:=Nat.mul_le_mul hlen hsm;omega
 have ed:(execOp a.eval o).run P w=.ok (.value (.slice (some ⟨w.heap.size,0,none⟩) len len)) (w.alloc (.cells iU te)):=by
  have PA:Instr.fill (λi=>some (i*e.size,e.size)) ((Array.range (len*e.size)).map ((if len*e.size=0 then(#[]:Array Value) else z.cells)[·%(if len*e.size=0 then(#[]:Array Value) else z.cells).size]!)) (parts.map λ(i,x)=>(i,a.eval x)).toList=some iU:=by rw[Vw];exact acL
  by_cases h0:len*e.size=0;rw[aH h0]at PA;simp only[execOp,ho,Instr.buildSlice,underlying,Sem.run_bind,run_program,hu,Result.andThen_ok,Sem.run_pure,sizeOf,typeInfo,Aw,tH];rw[lv,aH h0];simp only[Sem.run_pure,Result.andThen_ok,PA,newRow,Sem.run_bind,run_newObj];rfl;rw[aI h0]at PA;simp only[execOp,ho,Instr.buildSlice,underlying,Sem.run_bind,run_program,hu,Result.andThen_ok,Sem.run_pure,sizeOf,typeInfo,Aw,tH];rw[lv,aI h0];simp only[zeroValue,typeInfo,Sem.run_bind,run_program,Aw,hz,Sem.run_pure,Result.andThen_ok,PA,newRow,run_newObj];rfl
 refine⟨_,_,_,.inl ed,?_,hk⟩;have ahy:kt g'.hw w e (iU.toList.take (xs.length*e.size)) xs Vi:=by rw[bI (by rw[Array.length_toList,xi,ha0,hxl];exact aS _)];simpa using CC
 have:=nE.Lp o.dst (T:=te) (fr:=(0,0)) (cap:=len) (.inl rfl) (by intro j _;simp) (by rw[xi,ha0]) (by omega) ahy BX (λb hb=>by obtain⟨j,hj⟩:=Zi b hb;rw[hj];rfl);rw[hxl]at this;exact this;cases hk;cases hk;cases hk
end Go.Dn
