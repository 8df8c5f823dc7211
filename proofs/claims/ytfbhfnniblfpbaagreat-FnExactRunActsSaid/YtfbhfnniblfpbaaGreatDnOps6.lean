import Derived.Test.YtfbhfnniblfpbaaGreatDnOps5
/- Part 6: structs and slices that are built; append. -/
namespace Go.Dn
open Go.RowKit
variable {P:Program} {C:Ctx} {st:AS} {a:Act} {w:World} {R:Type} {r:R}
variable {parts:Array (Nat×Operand)} {place:Nat->au (Nat×Nat)} {T:TypeId} {hs:aq (Value×AV)}
theorem dx.eO:∀(xs:aq Operand){g:Gh}{st:AS}{hs:aq (Value×AV)},dx C g st a w hs->
 ∃g',dx C g' (eO st xs).2 a w (hs++(xs.map a.eval).zip (eO st xs).1)/\(eO st xs).1.length=xs.length/\(eO st xs).2.ep=st.ep
 |[],g,st,hs,h=>⟨g,by simpa[Dn.eO]using h,rfl,rfl⟩
 |x::xs,g,st,hs,h=>by obtain⟨g1,h1⟩:=h.take x;obtain⟨g2,h2,hl,xY⟩:=dx.eO xs h1;refine⟨g2,?_,by simp[Dn.eO,hl],by simp only[Dn.eO];rw[xY,UA]⟩;simpa[Dn.eO]using h2
theorem WI {α β:Type}(f:α->Sem β)(gf:α->β)(w:World):∀(l:aq α),(∀x∈l,(f x).run P w=.ok (gf x) w)->(l.mapM f).run P w=.ok (l.map gf) w
 |[],_=>by simp
 |x::l,h=>by rw[List.mapM_cons];simp only[Sem.run_bind,h x (by simp),Result.andThen_ok,WI f gf w l (λy hy=>h y (ee _ hy)),Sem.run_pure,ed]
theorem FE {α β:Type}(f:α->Sem β)(gf:α->β)(w:World)(l:Array α)(h:∀x∈l,(f x).run P w=.ok (gf x) w):(l.mapM f).run P w=.ok (l.map gf) w:=by rw[Array.mapM_eq_mapM_toList,Sem.run_map,WI f gf w l.toList (λx hx=>h x (by simpa using hx))];simp only[Result.andThen_ok,Result.ok.injEq,ij];apply ei;simp
theorem Qp (us:ie):∀(arr:Array Value)(off j:Nat),((us.zipIdx j).foldl (λcs (x:Value×Nat)=>cs.setIfInBounds (off+x.2) x.1) arr)=eF arr (off+j) us:=by induction us with|nil=>intro arr off j;rfl|cons u us ih=>intro arr off j;rw[List.zipIdx_cons,List.foldl_cons,ih];rfl
theorem Ry {cells:Array Value}{i:Nat}{v:Value}{rest:aq (Nat×Value)}{off:Nat}{us:ie}(hp:place i=some (off,us.length))(hv:v.cells.toList=us)(gI:off+us.length<=cells.size):Instr.fill place cells ((i,v)::rest)=Instr.fill place (eF cells off us) rest:=by
 have tw:v.cells.size=us.length:=by rw[<-hv];simp
 rw[Instr.fill,hp];simp only[tw];rw[aF (by simp;omega)];congr 1;have:v.cells=us.toArray:=by apply ei;simpa using hv
 rw[this];have h2:=Qp us cells off 0;rw[dM]at h2;rw[<-h2];rw[<-Array.foldl_toList];simp
theorem adh {cs vs:aq AC}{off n:Nat}(h:vs.length=n):db cs off vs=cs.take off++vs++cs.drop (off+n):=by simp only[db];rw[h]
theorem Ob {g:Gh}(h:dx C g st a w hs){jZ:aq (Nat×Nat)}(C3:∀i fo n,jZ[i]?=some (fo,n)->place i=some (fo,n)):
 ∀(parts:aq (Nat×Value×AV))(k:Nat)(arr:Array Value)(zs:aq AC)(fp:dX)(cs:aq AC),(∀j i v av,parts[j]?=some (i,v,av)->hs[k+j]?=some (v,av))->
  bn (cy C g st w) arr.toList zs fp->fp.Nodup->(∀b∈fp,∃j,j<k/\g.dK b=some (.hand j))->
  ya jZ zs (parts.map λx=>(x.1,x.2.2.cells))=some cs->
  ∃iX iw,Instr.fill place arr (parts.map λx=>(x.1,x.2.1))=some iX/\bn (cy C g st w) iX.toList cs iw/\iw.Nodup/\∀b∈iw,∃j,g.dK b=some (.hand j)
 |[],k,arr,zs,fp,cs,_,hr,hn,hl,hb=>by simp[ya]at hb;subst hb;exact⟨arr,fp,rfl,hr,hn,λb hb=>let ⟨j,_,hj⟩:=hl b hb;⟨j,hj⟩⟩
 |(i,v,av)::parts,k,arr,zs,fp,cs,hp,hr,hn,hl,hb=>by
  simp only[ed,ya,dB]at hb;split at hb;rename_i off n QG;split at hb;rename_i hc;obtain⟨fh,RG,Mz,VC⟩:=h.hands k v av (by simpa using hp 0 i v av rfl);cases av with
  |vU ts=>simp[AV.cells,AC.KT]at hc
  |val gg vs=>
   simp only[AV.cells]at hc hb;obtain⟨us,eh,XC⟩:=RG;have hul:=XC.length;have h1:=XC.np hc.2.2;have DS:=Lt eh h1;have hal:=hr.length;have aq4:arr.size=zs.length:=by simpa using hal
   have gI:off+us.length<=arr.size:=by omega
   have aiv:place i=some (off,us.length):=by rw[C3 i off n QG];congr 2;omega
   obtain⟨f1,f2,f3,rfl,r1,r2,r3⟩:=hr.mid off us.length;have dD:bn (cy C g st w) (eF arr off us).toList (db zs off vs) (f1++fh++f3):=by rw[xm us arr off gI,adh hul.symm];exact(r1.append XC).append r3
   have Az:∀b∈fh,b∉f1++f2++f3:=by intro b gL hm;obtain⟨j,hj,hlj⟩:=hl b hm;rw[VC b gL]at hlj;simp at hlj;omega
   have Cb:=hn;rw[aN]at Cb;have n1:=aB.1 Cb;have n2:=aB.1 n1.2.1;have air:(f1++fh++f3).Nodup:=by rw[aN];refine aB.2 ⟨n1.1,aB.2 ⟨Mz,n2.2.1,?_⟩,?_⟩;rintro b gL c D9 rfl;exact Az b gL (by simp[D9]);rintro b gL c D9 rfl;rcases az.1 D9 with D9|D9;exact Az b D9 (by simp[gL]);exact n1.2.2 b gL b (ba _ D9) rfl
   obtain⟨iX,iw,hf,vy,agC,hl'⟩:=Ob h C3 parts (k+1) (eF arr off us) (db zs off vs) (f1++fh++f3) cs (λj i' v' Qy hj=>by have:=hp (j+1) i' v' Qy (by simpa using hj);rwa[show k+(j+1)=k+1+j by omega]at this) dD air (λb gL=>by simp only[az]at gL;rcases gL with(gL|gL)|gL;obtain⟨j,hj,hlj⟩:=hl b (by simp[gL]);exact⟨j,by omega,hlj⟩;exact⟨k,by omega,VC b gL⟩;obtain⟨j,hj,hlj⟩:=hl b (by simp[gL]);exact⟨j,by omega,hlj⟩) hb;refine⟨iX,iw,?_,vy,agC,hl'⟩;rw[ed,Ry aiv DS gI];exact hf
  cases hb;cases hb
theorem aiW {α β γ:Type}:∀(l:aq α)(m:aq β)(n:aq γ),l.length=m.length->m.length=n.length->
 ∃ps:aq (α×β×γ),ps.map (λx=>(x.1,x.2.1))=l.zip m/\ps.map (λx=>(x.1,x.2.2))=l.zip n/\ps.map (λx=>(x.2.1,x.2.2))=m.zip n
 |[],[],[],_,_=>⟨[],rfl,rfl,rfl⟩
 |x::l,y::m,z::n,h1,h2=>by obtain⟨ps,p1,p2,p3⟩:=aiW l m n (by simpa using h1) (by simpa using h2);exact⟨(x,y,z)::ps,by simp[p1],by simp[p2],by simp[p3]⟩
 |[],_::_,_,h,_=>by simp at h
 |_::_,[],_,h,_=>by simp at h
 |[],[],_::_,_,h=>by simp at h
 |_::_,_::_,[],_,h=>by simp at h
theorem XY {E:Env}(hE:js P E.ty){o:Oper}(ho:o.op=.build T parts)(h:nv C st a w){K:AS->au R}(hk:DP E o T parts.toList st K=some r):nb P C o a w K r:=by
 obtain⟨g,hg⟩:=h;unfold DP at hk;split at hk;rename_i ct jZ hT;split at hk;rename_i vs st' tF;split at hk;rename_i cs hbc;obtain⟨g',na,hlen,xY⟩:=hg.eO (parts.toList.map (·.2));rw[tF]at na hlen;simp only[bU]at na hlen;have ku:=hE T _ hT;obtain⟨inf,z,Em,tw,_,hz,hzc⟩:=ku.elem.info;obtain⟨fs,hu,IA⟩:=ku.agg rfl;have aic:=ku.count rfl fs hu;have agD:(fs.mapM λf=>do pure (f.offset,<-sizeOf f.type):Sem (Array (Nat×Nat))).run P w=.ok (fs.map λf=>(f.offset,P.cellsOf f.type)) w:=by refine FE _ _ w fs (λf hf=>?_);obtain⟨i,hi,rfl⟩:=Array.mem_iff_getElem.1 hf;obtain⟨aqP,ajj⟩:=aic i fs[i] (Array.getElem?_eq_getElem hi);simp[sizeOf,typeInfo,ajj,Program.cellsOf]
 have C3:∀(i fo n:Nat),jZ[i]?=some (fo,n)->(λ(i:Nat)=>(fs.map λf=>(f.offset,P.cellsOf f.type))[i]?) i=some (fo,n):=by intro i fo n hi;obtain⟨fd,hfd,h1,_,aqP,h2,h3⟩:=IA i fo n hi;simp only[Array.getElem?_map,hfd,dg,h1,Program.cellsOf,h2,h3,fz]
 have hzero:bn (cy C g' st' w) z.cells.toList (cellsOf ct (.own none) ct.zero) []:=by rw[hzc];exact sE (HP _ _ _)
 have hl1:(parts.toList.map (·.1)).length=((parts.toList.map (·.2)).map a.eval).length:=by simp
 have AA:((parts.toList.map (·.2)).map a.eval).length=vs.length:=by rw[hlen];simp
 obtain⟨ps,p1,p2,p3⟩:=aiW (parts.toList.map (·.1)) ((parts.toList.map (·.2)).map a.eval) vs hl1 AA;have aqj:ya jZ (cellsOf ct (.own none) ct.zero) (ps.map λx=>(x.1,x.2.2.cells))=some cs:=by
  rw[<-hbc];congr 1;have:(ps.map λx=>(x.1,x.2.2.cells))=(ps.map λx=>(x.1,x.2.2)).map (λy=>(y.1,y.2.cells)):=by simp
  rw[this,p2,List.zip_map_right];simp
 obtain⟨iX,iw,ael,dD,Cb,hl'⟩:=Ob na (place:=λ(i:Nat)=>(fs.map λf=>(f.offset,P.cellsOf f.type))[i]?) C3 ps 0 z.cells _ [] cs
  (λj i v av hj=>by
   have h1:(ps.map λx=>(x.2.1,x.2.2))[j]?=some (v,av):=by simp[hj]
   rw[p3]at h1;simpa using h1) hzero (by simp) (by simp) aqj
 have Yw:(parts.map λ(i,x)=>(i,a.eval x)).toList=ps.map λx=>(x.1,x.2.1):=by rw[p1];apply cM;intro j;simp[List.zip_eq_zipWith]
 have dJ:(execOp a.eval o).run P w=.ok (.value (.agg iX)) w:=by simp only[execOp,ho,Instr.build,zeroValue,typeInfo,underlying,Sem.run_bind,run_program,Em,hz,hu,Result.andThen_ok,Sem.run_pure,agD,Yw,ael]
 refine⟨.agg iX,w,_,.inl dJ,?_,hk⟩;exact na.Pz o.dst rfl rfl rfl rfl (λt ht=>⟨ht,rfl⟩) (Fr.refl _ _) (λ_ _ _ _=>rfl) (λ_ _ _ ho hu=>⟨ho,hu⟩) ⟨iX.toList,by simp[Cut],dD⟩ Cb (λb hb=>by obtain⟨j,hj⟩:=hl' b hb;exact⟨(na.fB b _ hj).1,.inl (by rw[hj];rfl)⟩);cases hk;cases hk
theorem V6 {g:Gh}(h:dx C g st a w hs){e:CT}:
 ∀(parts:aq (Nat×Value×AV))(k:Nat)(arr:Array Value)(xs:aq e.D)(fps:aq dX)(ys:aq e.D),(∀j i v av,parts[j]?=some (i,v,av)->hs[k+j]?=some (v,av))->
  (∀j i v av,parts[j]?=some (i,v,av)->i=k+j)->xs.length=k->arr.size=(k+parts.length)*e.size->
  kI g.hw w e (arr.toList.take (k*e.size)) xs fps->fps.flatten.Nodup->(∀b∈fps.flatten,∃j,j<k/\g.dK b=some (.hand j))->
  Eu e (parts.map λx=>x.2.2.cells)=some ys->
  ∃iX Yk,Instr.fill (λi=>some (i*e.size,e.size)) arr (parts.map λx=>(x.1,x.2.1))=some iX/\iX.size=arr.size/\kI g.hw w e iX.toList (xs++ys) Yk/\Yk.flatten.Nodup/\∀b∈Yk.flatten,∃j,g.dK b=some (.hand j)
 |[],k,arr,xs,fps,ys,_,_,hk,tw,G8,hn,hl,hb=>by simp[Eu]at hb;subst hb;have:arr.toList.take (k*e.size)=arr.toList:=bB (by simp at tw⊢;omega);rw[this]at G8;exact⟨arr,fps,rfl,rfl,by simpa using G8,hn,λb hb=>let ⟨j,_,hj⟩:=hl b hb;⟨j,hj⟩⟩
 |(i,v,av)::parts,k,arr,xs,fps,ys,hp,hi,hk,tw,G8,hn,hl,hb=>by
  simp only[ed,Eu]at hb;split at hb;rename_i y hof;simp only[aL]at hb;obtain⟨zs,hzs,hyz⟩:=hb;simp at hyz;subst hyz;have hik:i=k:=by simpa using hi 0 i v av rfl
  subst hik;obtain⟨fh,RG,Mz,VC⟩:=h.hands i v av (by simpa using hp 0 i v av rfl);cases av with
  |vU ts=>exfalso;revert hof;simp only[AV.cells];intro hof;have:=oz (c:=cy C g st w) (vs:=[undef]) (cs:=[.bot]) (fp:=[]) ⟨[],[],rfl,rfl,rfl⟩ hof;obtain⟨f1,f2,_,eR,_⟩:=this;have h1:=ez.np eR undef (by cases hz:e.size with|zero=>have:=e.size_pos;omega|succ n=>simp);cases h1
  |val gg vs=>
   simp only[AV.cells]at hof;obtain⟨us,eh,XC⟩:=RG;obtain⟨f1,f2,aqr,eR,jx⟩:=oz XC hof;have Vz:us.drop e.size=[]/\f2=[]:=by cases hd:us.drop e.size with|nil=>rw[hd]at jx;exact⟨rfl,jx⟩|cons p q=>rw[hd]at jx;exact jx.elim
   have hul:us.length<=e.size:=by have:=Vz.1;rw[List.drop_eq_nil_iff]at this;exact this
   rw[bB hul]at eR;have aiB:us.length=e.size:=ez.length eR;have h1:=ez.np eR;have DS:=Lt eh h1;have abD:arr.size=i*e.size+(parts.length+1)*e.size:=by rw[tw,bC,cn]
   have hpe:e.size<=(parts.length+1)*e.size:=by rw[cn,dQ];omega
   have gI:i*e.size+us.length<=arr.size:=by omega
   have QE:fh=f1:=by rw[aqr,Vz.2,bp]
   subst QE;have tF:(eF arr (i*e.size) us).toList.take ((i+1)*e.size)=arr.toList.take (i*e.size)++us:=by
    rw[xm us arr _ gI];have hl1:(arr.toList.take (i*e.size)++us).length=(i+1)*e.size:=by rw[aw,bm,cn,dQ,aiB];simp;omega
    rw[List.take_append_of_le_length (by omega),bB (by omega)]
   have Yv:kI g.hw w e us [y] [fh]:=by refine⟨by simp[aiB],rfl,λj z f hz hf=>?_⟩;cases j with|zero=>simp at hz hf;subst hz;subst hf;rw[Nat.zero_mul,fa,bB (by omega)];exact eR|succ j=>simp at hz
   have aqo:kI g.hw w e ((eF arr (i*e.size) us).toList.take ((i+1)*e.size)) (xs++[y]) (fps++[fh]):=by rw[tF];exact G8.append Yv
   have Az:∀b∈fh,b∉fps.flatten:=by intro b gL hm;obtain⟨j,hj,hlj⟩:=hl b hm;rw[VC b gL]at hlj;simp at hlj;omega
   obtain⟨iX,Yk,hf,ux,aid,C2,AA⟩:=V6 h parts (i+1) (eF arr (i*e.size) us) (xs++[y]) (fps++[fh]) zs (λj i' v' Qy hj=>by have:=hp (j+1) i' v' Qy (by simpa using hj);rwa[show i+(j+1)=i+1+j by omega]at this) (λj i' v' Qy hj=>by have:=hi (j+1) i' v' Qy (by simpa using hj);omega) (by simp[hk]) (by rw[iD,tw,bC];congr 1;omega) aqo (by simp only[dN,List.flatten_cons,List.flatten_nil,bp];refine aB.2 ⟨hn,Mz,?_⟩;rintro b gL c D9 rfl;exact Az b D9 gL) (λb gL=>by simp only[dN,List.flatten_cons,List.flatten_nil,bp,az]at gL;rcases gL with gL|gL;obtain⟨j,hj,hlj⟩:=hl b gL;exact⟨j,by omega,hlj⟩;exact⟨i,by omega,VC b gL⟩) hzs;refine⟨iX,Yk,?_,by rw[ux,iD],by simpa using aid,C2,AA⟩;rw[ed,Ry (by rw[aiB]) DS gI];exact hf
  cases hb
theorem Kw:∀{n:Nat}{l:aq (Nat×Operand)},Kv n l=true->∀j i x,l[j]?=some (i,x)->i=n+j
 |_,[],_,j,i,x,h=>by simp at h
 |n,(m,y)::l,h,0,i,x,hj=>by simp only[Kv,ah,bD]at h;simp at hj;rw[<-hj.1];exact h.1
 |n,(m,y)::l,h,j+1,i,x,hj=>by simp only[Kv,ah,bD]at h;have:=Kw h.2 j i x (by simpa using hj);omega
theorem Nf {E:Env}(hE:js P E.ty){o:Oper}{len:Nat}(ho:o.op=.buildSlice T len parts)(h:nv C st a w){K:AS->au R}(hk:lY E o T len parts.toList st K=some r):nb P C o a w K r:=by
 obtain⟨g,hg⟩:=h;unfold lY at hk;split at hk;rename_i e hT;split at hk;rename_i hc;obtain⟨C3,Kb,hlen⟩:=hc;split at hk;rename_i vs st' tF;split at hk;rename_i xs aqw;obtain⟨g',na,hvl,xY⟩:=hg.eO (parts.toList.map (·.2));rw[tF]at na hvl;simp only[bU]at na hvl;obtain⟨te,hu,⟨inf,z,Em,tw,hby,hz,hzc⟩,hsm⟩:=HC hE hT;have hl1:(parts.toList.map (·.1)).length=((parts.toList.map (·.2)).map a.eval).length:=by simp
 have AA:((parts.toList.map (·.2)).map a.eval).length=vs.length:=by rw[hvl];simp
 obtain⟨ps,p1,p2,p3⟩:=aiW (parts.toList.map (·.1)) ((parts.toList.map (·.2)).map a.eval) vs hl1 AA;have aqG:ps.length=len:=by have:=congrArg List.length p1;simp at this;rw[this,<-C3];simp
 have ajp:Eu e (ps.map λx=>x.2.2.cells)=some xs:=by
  rw[<-aqw];congr 1;have:(ps.map λx=>x.2.2.cells)=(ps.map λx=>(x.1,x.2.2)).map (λy=>y.2.cells):=by simp
  rw[this,p2];have h2:((parts.toList.map (·.1)).zip vs).map (λy=>y.2.cells)=(((parts.toList.map (·.1)).zip vs).map Prod.snd).map AV.cells:=by simp
  rw[h2,List.map_snd_zip (by rw[<-AA,<-hl1];exact aR _)]
 have Yw:(parts.map λ(i,x)=>(i,a.eval x)).toList=ps.map λx=>(x.1,x.2.1):=by rw[p1];apply cM;intro j;simp[List.zip_eq_zipWith]
 have hzs:z.cells.size=e.size:=by rw[<-pJ e,<-hzc];simp
 let ai7:Array Value:=madeCells (if len*e.size=0 then #[] else z.cells) (len*e.size);have ha0:ai7.size=len*e.size:=size_madeCells _ _
 obtain⟨iX,Yk,ael,ux,G8,Cb,hl'⟩:=V6 na (e:=e) ps 0 ai7 [] [] xs
  (λj i v av hj=>by
   have h1:(ps.map λx=>(x.2.1,x.2.2))[j]?=some (v,av):=by simp[hj]
   rw[p3]at h1;simpa using h1)
  (λj i v av hj=>by
   have h1:(ps.map λx=>(x.1,x.2.1))[j]?=some (i,v):=by simp[hj]
   rw[p1]at h1;rw[List.getElem?_zip_eq_some]at h1;have h2:=h1.1;rw[List.getElem?_map]at h2;cases hq:parts.toList[j]? with|none=>rw[hq]at h2;cases h2|some q=>rw[hq]at h2;simp at h2;have:=Kw Kb j q.1 q.2 hq;omega) rfl (by rw[ha0,aqG];simp) (by simpa using kI.nil _ _ _) (by simp) (by simp) ajp
 have hxl:xs.length=len:=by have h1:=G8.1;rw[Array.length_toList,ux,ha0,bU]at h1;exact(Nat.eq_of_mul_eq_mul_right e.size_pos h1).symm
 have aqJ:¬(16777216<len*e.size):=by have:len*e.size<=1000*4096:=Nat.mul_le_mul hlen hsm;omega
 have dJ:(execOp a.eval o).run P w=.ok (.value (.slice (some ⟨w.heap.size,0,none⟩) len len)) (w.alloc (.cells iX te)):=by
  have Tn:Instr.fill (λi=>some (i*e.size,e.size)) ((Array.range (len*e.size)).map ((if len*e.size=0 then(#[]:Array Value) else z.cells)[·%(if len*e.size=0 then(#[]:Array Value) else z.cells).size]!)) (parts.map λ(i,x)=>(i,a.eval x)).toList=some iX:=by rw[Yw];exact ael
  by_cases h0:len*e.size=0;rw[aG h0]at Tn;simp only[execOp,ho,Instr.buildSlice,underlying,Sem.run_bind,run_program,hu,Result.andThen_ok,Sem.run_pure,sizeOf,typeInfo,Em,tw];rw[mI,aG h0];simp only[Sem.run_pure,Result.andThen_ok,Tn,newRow,Sem.run_bind,run_newObj];rfl;rw[aF h0]at Tn;simp only[execOp,ho,Instr.buildSlice,underlying,Sem.run_bind,run_program,hu,Result.andThen_ok,Sem.run_pure,sizeOf,typeInfo,Em,tw];rw[mI,aF h0];simp only[zeroValue,typeInfo,Sem.run_bind,run_program,Em,hz,Sem.run_pure,Result.andThen_ok,Tn,newRow,run_newObj];rfl
 refine⟨_,_,_,.inl dJ,?_,hk⟩;have aid:kI g'.hw w e (iX.toList.take (xs.length*e.size)) xs Yk:=by rw[bB (by rw[Array.length_toList,ux,ha0,hxl];exact aR _)];simpa using G8
 have:=na.Pn o.dst (T:=te) (fr:=(0,0)) (cap:=len) (.inl rfl) (by intro j _;simp) (by rw[ux,ha0]) (by omega) aid Cb (λb hb=>by obtain⟨j,hj⟩:=hl' b hb;rw[hj];rfl);rw[hxl]at this;exact this;cases hk;cases hk;cases hk
end Go.Dn
