import Derived.Test.YtbebkmajekhclaaGreatDnOps5
/- Part 6: structs and slices that are built; append. -/
namespace Go.Dn
open Go.RowKit
variable {P:Program} {C:Ctx} {st:AS} {a:Act} {w:World} {R:Type} {r:R}
variable {parts:Array (Nat×Operand)} {place:Nat->aB (Nat×Nat)} {T:TypeId} {hs:aw (Value×AV)}
theorem fb.gb:∀(xs:aw Operand){g:Gh}{st:AS}{hs:aw (Value×AV)},fb C g st a w hs->
 ∃g',fb C g' (gb st xs).2 a w (hs++(xs.map a.eval).zip (gb st xs).1)/\(gb st xs).1.length=xs.length/\(gb st xs).2.ep=st.ep
 |[],g,st,hs,h=>⟨g,by simpa[Dn.gb]using h,rfl,rfl⟩
 |x::xs,g,st,hs,h=>by obtain⟨g1,h1⟩:=h.take x;obtain⟨g2,h2,hl,AY⟩:=fb.gb xs h1;refine⟨g2,?_,by simp[Dn.gb,hl],by simp only[Dn.gb];rw[AY,XP]⟩;simpa[Dn.gb]using h2
theorem aaW {α β:Type}(f:α->Sem β)(gf:α->β)(w:World):∀(l:aw α),(∀x∈l,(f x).run P w=.ok (gf x) w)->(l.mapM f).run P w=.ok (l.map gf) w
 |[],_=>by simp
 |x::l,h=>by rw[List.mapM_cons];simp only[Sem.run_bind,h x (by simp),Result.andThen_ok,aaW f gf w l (λy hy=>h y (fB _ hy)),Sem.run_pure,dm]
theorem FA {α β:Type}(f:α->Sem β)(gf:α->β)(w:World)(l:Array α)(h:∀x∈l,(f x).run P w=.ok (gf x) w):(l.mapM f).run P w=.ok (l.map gf) w:=by rw[Array.mapM_eq_mapM_toList,Sem.run_map,aaW f gf w l.toList (λx hx=>h x (by simpa using hx))];simp only[Result.andThen_ok,Result.ok.injEq,jK];apply gj;simp
theorem SC (us:jJ):∀(arr:Array Value)(off j:Nat),((us.zipIdx j).foldl (λcs (x:Value×Nat)=>cs.setIfInBounds (off+x.2) x.1) arr)=fL arr (off+j) us:=by induction us with|nil=>intro arr off j;rfl|cons u us ih=>intro arr off j;rw[List.zipIdx_cons,dY,ih];rfl
theorem T7 {cells:Array Value}{i:Nat}{v:Value}{rest:aw (Nat×Value)}{off:Nat}{us:jJ}(hp:place i=some (off,us.length))(hv:v.cells.toList=us)(iO:off+us.length<=cells.size):Instr.fill place cells ((i,v)::rest)=Instr.fill place (fL cells off us) rest:=by
 have wI:v.cells.size=us.length:=by rw[<-hv];simp
 rw[Instr.fill,hp];simp only[wI];rw[aG (by simp;omega)];congr 1;have:v.cells=us.toArray:=by apply gj;simpa using hv
 rw[this];have h2:=SC us cells off 0;rw[dX]at h2;rw[<-h2];rw[<-Array.foldl_toList];simp
theorem aiP {cs vs:aw AC}{off n:Nat}(h:vs.length=n):fu cs off vs=cs.take off++vs++cs.drop (off+n):=by simp only[fu];rw[h]
theorem PN {g:Gh}(h:fb C g st a w hs){lr:aw (Nat×Nat)}(Gf:∀i fo n,lr[i]?=some (fo,n)->place i=some (fo,n)):
 ∀(parts:aw (Nat×Value×AV))(k:Nat)(arr:Array Value)(zs:aw AC)(fp:fM)(cs:aw AC),(∀j i v av,parts[j]?=some (i,v,av)->hs[k+j]?=some (v,av))->
  bV (dz C g st w) arr.toList zs fp->fp.Nodup->(∀b∈fp,∃j,j<k/\g.fE b=some (.hand j))->
  yN lr zs (parts.map λx=>(x.1,x.2.2.cells))=some cs->
  ∃jX lO,Instr.fill place arr (parts.map λx=>(x.1,x.2.1))=some jX/\bV (dz C g st w) jX.toList cs lO/\lO.Nodup/\∀b∈lO,∃j,g.fE b=some (.hand j)
 |[],k,arr,zs,fp,cs,_,hr,hn,hl,hb=>by simp[yN]at hb;subst hb;exact⟨arr,fp,rfl,hr,hn,λb hb=>let ⟨j,_,hj⟩:=hl b hb;⟨j,hj⟩⟩
 |(i,v,av)::parts,k,arr,zs,fp,cs,hp,hr,hn,hl,hb=>by
  simp only[dm,yN,eU]at hb;split at hb;rename_i off n S7;split at hb;rename_i hc;obtain⟨fh,Um,SJ,Zk⟩:=h.hands k v av (by simpa using hp 0 i v av rfl);cases av with
  |yE ts=>simp[AV.cells,AC.Lz]at hc
  |val gg vs=>
   simp only[AV.cells]at hc hb;obtain⟨us,gD,hrh⟩:=Um;have hul:=hrh.length;have h1:=hrh.oL hc.2.2;have D6:=Ma gD h1;have hal:=hr.length;have aya:arr.size=zs.length:=by simpa using hal
   have iO:off+us.length<=arr.size:=by omega
   have aqn:place i=some (off,us.length):=by rw[Gf i off n S7];congr 2;omega
   obtain⟨f1,f2,f3,rfl,r1,r2,r3⟩:=hr.mid off us.length;have fZ:bV (dz C g st w) (fL arr off us).toList (fu zs off vs) (f1++fh++f3):=by rw[yk us arr off iO,aiP hul.symm];exact(r1.append hrh).append r3
   have Ge:∀b∈fh,b∉f1++f2++f3:=by intro b iy hm;obtain⟨j,hj,hlj⟩:=hl b hm;rw[Zk b iy]at hlj;simp at hlj;omega
   have En:=hn;rw[aR]at En;have n1:=aS.1 En;have n2:=aS.1 n1.2.1;have aqj:(f1++fh++f3).Nodup:=by rw[aR];refine aS.2 ⟨n1.1,aS.2 ⟨SJ,n2.2.1,?_⟩,?_⟩;rintro b iy c Cf rfl;exact Ge b iy (by simp[Cf]);rintro b iy c Cf rfl;rcases aA.1 Cf with Cf|Cf;exact Ge b Cf (by simp[iy]);exact n1.2.2 b iy b (bz _ Cf) rfl
   obtain⟨jX,lO,hf,yK,axs,hl'⟩:=PN h Gf parts (k+1) (fL arr off us) (fu zs off vs) (f1++fh++f3) cs (λj i' v' SP hj=>by have:=hp (j+1) i' v' SP (by simpa using hj);rwa[show k+(j+1)=k+1+j by omega]at this) fZ aqj (λb iy=>by simp only[aA]at iy;rcases iy with(iy|iy)|iy;obtain⟨j,hj,hlj⟩:=hl b (by simp[iy]);exact⟨j,by omega,hlj⟩;exact⟨k,by omega,Zk b iy⟩;obtain⟨j,hj,hlj⟩:=hl b (by simp[iy]);exact⟨j,by omega,hlj⟩) hb;refine⟨jX,lO,?_,yK,axs,hl'⟩;rw[dm,T7 aqn D6 iO];exact hf
  cases hb;cases hb
theorem arz {α β γ:Type}:∀(l:aw α)(m:aw β)(n:aw γ),l.length=m.length->m.length=n.length->
 ∃ps:aw (α×β×γ),ps.map (λx=>(x.1,x.2.1))=l.zip m/\ps.map (λx=>(x.1,x.2.2))=l.zip n/\ps.map (λx=>(x.2.1,x.2.2))=m.zip n
 |[],[],[],_,_=>⟨[],rfl,rfl,rfl⟩
 |x::l,y::m,z::n,h1,h2=>by obtain⟨ps,p1,p2,p3⟩:=arz l m n (by simpa using h1) (by simpa using h2);exact⟨(x,y,z)::ps,by simp[p1],by simp[p2],by simp[p3]⟩
 |[],_::_,_,h,_=>by simp at h
 |_::_,[],_,h,_=>by simp at h
 |[],[],_::_,_,h=>by simp at h
 |_::_,_::_,[],_,h=>by simp at h
theorem abS {E:Env}(hE:kG P E.ty){o:Oper}(ho:o.op=.build T parts)(h:qe C st a w){K:AS->aB R}(hk:D1 E o T parts.toList st K=some r):ox P C o a w K r:=by
 obtain⟨g,hg⟩:=h;unfold D1 at hk;split at hk;rename_i ct lr hT;split at hk;rename_i vs cj vm;split at hk;rename_i cs hbc;obtain⟨g',qb,hlen,AY⟩:=hg.gb (parts.toList.map (·.2));rw[vm]at qb hlen;simp only[cv]at qb hlen;have oz:=hE T _ hT;obtain⟨inf,z,Ez,wI,_,hz,hzc⟩:=oz.elem.info;obtain⟨fs,hu,J1⟩:=oz.agg rfl;have ap5:=oz.count rfl fs hu;have anB:(fs.mapM λf=>do pure (f.offset,<-sizeOf f.type):Sem (Array (Nat×Nat))).run P w=.ok (fs.map λf=>(f.offset,P.cellsOf f.type)) w:=by refine FA _ _ w fs (λf hf=>?_);obtain⟨i,hi,rfl⟩:=Array.mem_iff_getElem.1 hf;obtain⟨axI,asn⟩:=ap5 i fs[i] (Array.getElem?_eq_getElem hi);simp[sizeOf,typeInfo,asn,Program.cellsOf]
 have Gf:∀(i fo n:Nat),lr[i]?=some (fo,n)->(λ(i:Nat)=>(fs.map λf=>(f.offset,P.cellsOf f.type))[i]?) i=some (fo,n):=by intro i fo n hi;obtain⟨fd,hfd,h1,_,axI,h2,h3⟩:=J1 i fo n hi;simp only[Array.getElem?_map,hfd,dP,h1,Program.cellsOf,h2,h3,gO]
 have hzero:bV (dz C g' cj w) z.cells.toList (cellsOf ct (.own none) ct.zero) []:=by rw[hzc];exact Cj (HG _ _ _)
 have hl1:(parts.toList.map (·.1)).length=((parts.toList.map (·.2)).map a.eval).length:=by simp
 have Cg:((parts.toList.map (·.2)).map a.eval).length=vs.length:=by rw[hlen];simp
 obtain⟨ps,p1,p2,p3⟩:=arz (parts.toList.map (·.1)) ((parts.toList.map (·.2)).map a.eval) vs hl1 Cg;have axc:yN lr (cellsOf ct (.own none) ct.zero) (ps.map λx=>(x.1,x.2.2.cells))=some cs:=by
  rw[<-hbc];congr 1;have:(ps.map λx=>(x.1,x.2.2.cells))=(ps.map λx=>(x.1,x.2.2)).map (λy=>(y.1,y.2.cells)):=by simp
  rw[this,p2,List.zip_map_right];simp
 obtain⟨jX,lO,akE,fZ,En,hl'⟩:=PN qb (place:=λ(i:Nat)=>(fs.map λf=>(f.offset,P.cellsOf f.type))[i]?) Gf ps 0 z.cells _ [] cs
  (λj i v av hj=>by
   have h1:(ps.map λx=>(x.2.1,x.2.2))[j]?=some (v,av):=by simp[hj]
   rw[p3]at h1;simpa using h1) hzero (by simp) (by simp) axc
 have ac5:(parts.map λ(i,x)=>(i,a.eval x)).toList=ps.map λx=>(x.1,x.2.1):=by rw[p1];apply dj;intro j;simp[List.zip_eq_zipWith]
 have fD:(execOp a.eval o).run P w=.ok (.value (.agg jX)) w:=by simp only[execOp,ho,Instr.build,zeroValue,typeInfo,underlying,Sem.run_bind,run_program,Ez,hz,hu,Result.andThen_ok,Sem.run_pure,anB,ac5,akE]
 refine⟨.agg jX,w,_,.inl fD,?_,hk⟩;exact qb.RL o.dst rfl rfl rfl rfl (λt ht=>⟨ht,rfl⟩) (Fr.refl _ _) (λ_ _ _ _=>rfl) (λ_ _ _ ho hu=>⟨ho,hu⟩) ⟨jX.toList,by simp[Cut],fZ⟩ En (λb hb=>by obtain⟨j,hj⟩:=hl' b hb;exact⟨(qb.im b _ hj).1,.inl (by rw[hj];rfl)⟩);cases hk;cases hk
theorem Z6 {g:Gh}(h:fb C g st a w hs){e:CT}:
 ∀(parts:aw (Nat×Value×AV))(k:Nat)(arr:Array Value)(xs:aw e.D)(fps:aw fM)(ys:aw e.D),(∀j i v av,parts[j]?=some (i,v,av)->hs[k+j]?=some (v,av))->
  (∀j i v av,parts[j]?=some (i,v,av)->i=k+j)->xs.length=k->arr.size=(k+parts.length)*e.size->
  ma g.hw w e (arr.toList.take (k*e.size)) xs fps->fps.flatten.Nodup->(∀b∈fps.flatten,∃j,j<k/\g.fE b=some (.hand j))->
  EJ e (parts.map λx=>x.2.2.cells)=some ys->
  ∃jX acU,Instr.fill (λi=>some (i*e.size,e.size)) arr (parts.map λx=>(x.1,x.2.1))=some jX/\jX.size=arr.size/\ma g.hw w e jX.toList (xs++ys) acU/\acU.flatten.Nodup/\∀b∈acU.flatten,∃j,g.fE b=some (.hand j)
 |[],k,arr,xs,fps,ys,_,_,hk,wI,GN,hn,hl,hb=>by simp[EJ]at hb;subst hb;have:arr.toList.take (k*e.size)=arr.toList:=ca (by simp at wI⊢;omega);rw[this]at GN;exact⟨arr,fps,rfl,rfl,by simpa using GN,hn,λb hb=>let ⟨j,_,hj⟩:=hl b hb;⟨j,hj⟩⟩
 |(i,v,av)::parts,k,arr,xs,fps,ys,hp,hi,hk,wI,GN,hn,hl,hb=>by
  simp only[dm,EJ]at hb;split at hb;rename_i y hof;simp only[ba]at hb;obtain⟨zs,hzs,hyz⟩:=hb;simp at hyz;subst hyz;have hik:i=k:=by simpa using hi 0 i v av rfl
  subst hik;obtain⟨fh,Um,SJ,Zk⟩:=h.hands i v av (by simpa using hp 0 i v av rfl);cases av with
  |yE ts=>exfalso;revert hof;simp only[AV.cells];intro hof;have:=AA (c:=dz C g st w) (vs:=[undef]) (cs:=[.bot]) (fp:=[]) ⟨[],[],rfl,rfl,rfl⟩ hof;obtain⟨f1,f2,_,ja,_⟩:=this;have h1:=gA.oL ja undef (by cases hz:e.size with|zero=>have:=e.size_pos;omega|succ n=>simp);cases h1
  |val gg vs=>
   simp only[AV.cells]at hof;obtain⟨us,gD,hrh⟩:=Um;obtain⟨f1,f2,axj,ja,wX⟩:=AA hrh hof;have Zf:us.drop e.size=[]/\f2=[]:=by cases hd:us.drop e.size with|nil=>rw[hd]at wX;exact⟨rfl,wX⟩|cons p q=>rw[hd]at wX;exact wX.elim
   have hul:us.length<=e.size:=by have:=Zf.1;rw[List.drop_eq_nil_iff]at this;exact this
   rw[ca hul]at ja;have aqt:us.length=e.size:=gA.length ja;have h1:=gA.oL ja;have D6:=Ma gD h1;have ag7:arr.size=i*e.size+(parts.length+1)*e.size:=by rw[wI,aP,dk]
   have hpe:e.size<=(parts.length+1)*e.size:=by rw[dk,gx];omega
   have iO:i*e.size+us.length<=arr.size:=by omega
   have S0:fh=f1:=by rw[axj,Zf.2,bD]
   subst S0;have vm:(fL arr (i*e.size) us).toList.take ((i+1)*e.size)=arr.toList.take (i*e.size)++us:=by
    rw[yk us arr _ iO];have hl1:(arr.toList.take (i*e.size)++us).length=(i+1)*e.size:=by rw[ai,aV,dk,gx,aqt];simp;omega
    rw[List.take_append_of_le_length (by omega),ca (by omega)]
   have ac4:ma g.hw w e us [y] [fh]:=by refine⟨by simp[aqt],rfl,λj z f hz hf=>?_⟩;cases j with|zero=>simp at hz hf;subst hz;subst hf;rw[Nat.zero_mul,fQ,ca (by omega)];exact ja|succ j=>simp at hz
   have axg:ma g.hw w e ((fL arr (i*e.size) us).toList.take ((i+1)*e.size)) (xs++[y]) (fps++[fh]):=by rw[vm];exact GN.append ac4
   have Ge:∀b∈fh,b∉fps.flatten:=by intro b iy hm;obtain⟨j,hj,hlj⟩:=hl b hm;rw[Zk b iy]at hlj;simp at hlj;omega
   obtain⟨jX,acU,hf,yL,ap6,EA,Cg⟩:=Z6 h parts (i+1) (fL arr (i*e.size) us) (xs++[y]) (fps++[fh]) zs (λj i' v' SP hj=>by have:=hp (j+1) i' v' SP (by simpa using hj);rwa[show i+(j+1)=i+1+j by omega]at this) (λj i' v' SP hj=>by have:=hi (j+1) i' v' SP (by simpa using hj);omega) (by simp[hk]) (by rw[jD,wI,aP];congr 1;omega) axg (by simp only[eO,List.flatten_cons,List.flatten_nil,bD];refine aS.2 ⟨hn,SJ,?_⟩;rintro b iy c Cf rfl;exact Ge b Cf iy) (λb iy=>by simp only[eO,List.flatten_cons,List.flatten_nil,bD,aA]at iy;rcases iy with iy|iy;obtain⟨j,hj,hlj⟩:=hl b iy;exact⟨j,by omega,hlj⟩;exact⟨i,by omega,Zk b iy⟩) hzs;refine⟨jX,acU,?_,by rw[yL,jD],by simpa using ap6,EA,Cg⟩;rw[dm,T7 (by rw[aqt]) D6 iO];exact hf
  cases hb
theorem K1:∀{n:Nat}{l:aw (Nat×Operand)},K0 n l=true->∀j i x,l[j]?=some (i,x)->i=n+j
 |_,[],_,j,i,x,h=>by simp at h
 |n,(m,y)::l,h,0,i,x,hj=>by simp only[K0,ae,bn]at h;simp at hj;rw[<-hj.1];exact h.1
 |n,(m,y)::l,h,j+1,i,x,hj=>by simp only[K0,ae,bn]at h;have:=K1 h.2 j i x (by simpa using hj);omega
theorem OL {E:Env}(hE:kG P E.ty){o:Oper}{len:Nat}(ho:o.op=.buildSlice T len parts)(h:qe C st a w){K:AS->aB R}(hk:nz E o T len parts.toList st K=some r):ox P C o a w K r:=by
 obtain⟨g,hg⟩:=h;unfold nz at hk;split at hk;rename_i e hT;split at hk;rename_i hc;obtain⟨Gf,S3,hlen⟩:=hc;split at hk;rename_i vs cj vm;split at hk;rename_i xs axo;obtain⟨g',qb,hvl,AY⟩:=hg.gb (parts.toList.map (·.2));rw[vm]at qb hvl;simp only[cv]at qb hvl;obtain⟨te,hu,⟨inf,z,Ez,wI,hby,hz,hzc⟩,hsm⟩:=Hq hE hT;have hl1:(parts.toList.map (·.1)).length=((parts.toList.map (·.2)).map a.eval).length:=by simp
 have Cg:((parts.toList.map (·.2)).map a.eval).length=vs.length:=by rw[hvl];simp
 obtain⟨ps,p1,p2,p3⟩:=arz (parts.toList.map (·.1)) ((parts.toList.map (·.2)).map a.eval) vs hl1 Cg;have axz:ps.length=len:=by have:=congrArg List.length p1;simp at this;rw[this,<-Gf];simp
 have ast:EJ e (ps.map λx=>x.2.2.cells)=some xs:=by
  rw[<-axo];congr 1;have:(ps.map λx=>x.2.2.cells)=(ps.map λx=>(x.1,x.2.2)).map (λy=>y.2.cells):=by simp
  rw[this,p2];have h2:((parts.toList.map (·.1)).zip vs).map (λy=>y.2.cells)=(((parts.toList.map (·.1)).zip vs).map Prod.snd).map AV.cells:=by simp
  rw[h2,List.map_snd_zip (by rw[<-Cg,<-hl1];exact bc _)]
 have ac5:(parts.map λ(i,x)=>(i,a.eval x)).toList=ps.map λx=>(x.1,x.2.1):=by rw[p1];apply dj;intro j;simp[List.zip_eq_zipWith]
 have hzs:z.cells.size=e.size:=by rw[<-rz e,<-hzc];simp
 let ar5:Array Value:=madeCells (if len*e.size=0 then #[] else z.cells) (len*e.size);have ha0:ar5.size=len*e.size:=size_madeCells _ _
 obtain⟨jX,acU,akE,yL,GN,En,hl'⟩:=Z6 qb (e:=e) ps 0 ar5 [] [] xs
  (λj i v av hj=>by
   have h1:(ps.map λx=>(x.2.1,x.2.2))[j]?=some (v,av):=by simp[hj]
   rw[p3]at h1;simpa using h1)
  (λj i v av hj=>by
   have h1:(ps.map λx=>(x.1,x.2.1))[j]?=some (i,v):=by simp[hj]
   rw[p1]at h1;rw[List.getElem?_zip_eq_some]at h1;have h2:=h1.1;rw[List.getElem?_map]at h2;cases hq:parts.toList[j]? with|none=>rw[hq]at h2;cases h2|some q=>rw[hq]at h2;simp at h2;have:=K1 S3 j q.1 q.2 hq;omega) rfl (by rw[ha0,axz];simp) (by simpa using ma.nil _ _ _) (by simp) (by simp) ast
 have hxl:xs.length=len:=by have h1:=GN.1;rw[Array.length_toList,yL,ha0,cv]at h1;exact(Nat.eq_of_mul_eq_mul_right e.size_pos h1).symm
 have axC:¬(16777216<len*e.size):=by have:len*e.size<=1000*4096:=Nat.mul_le_mul hlen hsm;omega
 have fD:(execOp a.eval o).run P w=.ok (.value (.slice (some ⟨w.heap.size,0,none⟩) len len)) (w.alloc (.cells jX te)):=by
  have WJ:Instr.fill (λi=>some (i*e.size,e.size)) ((Array.range (len*e.size)).map ((if len*e.size=0 then(#[]:Array Value) else z.cells)[·%(if len*e.size=0 then(#[]:Array Value) else z.cells).size]!)) (parts.map λ(i,x)=>(i,a.eval x)).toList=some jX:=by rw[ac5];exact akE
  by_cases h0:len*e.size=0;rw[aH h0]at WJ;simp only[execOp,ho,Instr.buildSlice,underlying,Sem.run_bind,run_program,hu,Result.andThen_ok,Sem.run_pure,sizeOf,typeInfo,Ez,wI];rw[lI,aH h0];simp only[Sem.run_pure,Result.andThen_ok,WJ,newRow,Sem.run_bind,run_newObj];rfl;rw[aG h0]at WJ;simp only[execOp,ho,Instr.buildSlice,underlying,Sem.run_bind,run_program,hu,Result.andThen_ok,Sem.run_pure,sizeOf,typeInfo,Ez,wI];rw[lI,aG h0];simp only[zeroValue,typeInfo,Sem.run_bind,run_program,Ez,hz,Sem.run_pure,Result.andThen_ok,WJ,newRow,run_newObj];rfl
 refine⟨_,_,_,.inl fD,?_,hk⟩;have ap6:ma g'.hw w e (jX.toList.take (xs.length*e.size)) xs acU:=by rw[ca (by rw[Array.length_toList,yL,ha0,hxl];exact bc _)];simpa using GN
 have:=qb.Ru o.dst (T:=te) (fr:=(0,0)) (cap:=len) (.inl rfl) (by intro j _;simp) (by rw[yL,ha0]) (by omega) ap6 En (λb hb=>by obtain⟨j,hj⟩:=hl' b hb;rw[hj];rfl);rw[hxl]at this;exact this;cases hk;cases hk;cases hk
end Go.Dn
