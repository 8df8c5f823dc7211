import Derived.Test.YtfbhfnniblfpbaaGreatDnOps5
/- Part 6: structs and slices that are built; append. -/
namespace Go.Dn
open Go.RowKit
variable {P:Program} {C:Ctx} {st:AS} {a:Act} {w:World} {R:Type} {r:R}
variable {parts:Array (Nat×Operand)} {place:Nat->aw (Nat×Nat)} {T:TypeId} {hs:au (Value×AV)}
theorem dk.ez:∀(xs:au Operand){g:Gh}{st:AS}{hs:au (Value×AV)},dk C g st a w hs->
 ∃g',dk C g' (ez st xs).2 a w (hs++(xs.map a.eval).zip (ez st xs).1)/\(ez st xs).1.length=xs.length/\(ez st xs).2.ep=st.ep
 |[],g,st,hs,h=>⟨g,by simpa[Dn.ez]using h,rfl,rfl⟩
 |x::xs,g,st,hs,h=>by obtain⟨g1,h1⟩:=h.take x;obtain⟨g2,h2,hl,xl⟩:=dk.ez xs h1;refine⟨g2,?_,by simp[Dn.ez,hl],by simp only[Dn.ez];rw[xl,TK]⟩;simpa[Dn.ez]using h2
theorem VQ {α β:Type}(f:α->Sem β)(gf:α->β)(w:World):∀(l:au α),(∀x∈l,(f x).run P w=.ok (gf x) w)->(l.mapM f).run P w=.ok (l.map gf) w
 |[],_=>by simp
 |x::l,h=>by rw[List.mapM_cons];simp only[Sem.run_bind,h x (by simp),Result.andThen_ok,VQ f gf w l (λy hy=>h y (dK _ hy)),Sem.run_pure,List.map_cons]
theorem EL {α β:Type}(f:α->Sem β)(gf:α->β)(w:World)(l:Array α)(h:∀x∈l,(f x).run P w=.ok (gf x) w):(l.mapM f).run P w=.ok (l.map gf) w:=by rw[Array.mapM_eq_mapM_toList,Sem.run_map,VQ f gf w l.toList (λx hx=>h x (by simpa using hx))];simp only[Result.andThen_ok,Result.ok.injEq,gR];apply dQ;simp
theorem PL (us:gP):∀(arr:Array Value)(off j:Nat),((us.zipIdx j).foldl (λcs (x:Value×Nat)=>cs.setIfInBounds (off+x.2) x.1) arr)=ec arr (off+j) us:=by induction us with|nil=>intro arr off j;rfl|cons u us ih=>intro arr off j;rw[List.zipIdx_cons,List.foldl_cons,ih];rfl
theorem QT {cells:Array Value}{i:Nat}{v:Value}{rest:au (Nat×Value)}{off:Nat}{us:gP}(hp:place i=some (off,us.length))(hv:v.cells.toList=us)(gk:off+us.length<=cells.size):Instr.fill place cells ((i,v)::rest)=Instr.fill place (ec cells off us) rest:=by
 have sR:v.cells.size=us.length:=by rw[<-hv];simp
 rw[Instr.fill,hp];simp only[sR];rw[aE (by simp;omega)];congr 1;have:v.cells=us.toArray:=by apply dQ;simpa using hv
 rw[this];have h2:=PL us cells off 0;rw[dC]at h2;rw[<-h2];rw[<-Array.foldl_toList];simp
theorem aci {cs vs:au AC}{off n:Nat}(h:vs.length=n):cS cs off vs=cs.take off++vs++cs.drop (off+n):=by simp only[cS];rw[h]
theorem Nw {g:Gh}(h:dk C g st a w hs){jJ:au (Nat×Nat)}(B9:∀i fo n,jJ[i]?=some (fo,n)->place i=some (fo,n)):
 ∀(parts:au (Nat×Value×AV))(k:Nat)(arr:Array Value)(zs:au AC)(fp:dI)(cs:au AC),(∀j i v av,parts[j]?=some (i,v,av)->hs[k+j]?=some (v,av))->
  bp (cq C g st w) arr.toList zs fp->fp.Nodup->(∀b∈fp,∃j,j<k/\g.dB b=some (.hand j))->
  xn jJ zs (parts.map λx=>(x.1,x.2.2.cells))=some cs->
  ∃iJ hY,Instr.fill place arr (parts.map λx=>(x.1,x.2.1))=some iJ/\bp (cq C g st w) iJ.toList cs hY/\hY.Nodup/\∀b∈hY,∃j,g.dB b=some (.hand j)
 |[],k,arr,zs,fp,cs,_,hr,hn,hl,hb=>by simp[xn]at hb;subst hb;exact⟨arr,fp,rfl,hr,hn,λb hb=>let ⟨j,_,hj⟩:=hl b hb;⟨j,hj⟩⟩
 |(i,v,av)::parts,k,arr,zs,fp,cs,hp,hr,hn,hl,hb=>by
  simp only[List.map_cons,xn,dv]at hb;split at hb;rename_i off n P3;split at hb;rename_i hc;obtain⟨fh,QZ,LR,UK⟩:=h.hands k v av (by simpa using hp 0 i v av rfl);cases av with
  |vq ts=>simp[AV.cells,AC.J9]at hc
  |val gg vs=>
   simp only[AV.cells]at hc hb;obtain⟨us,dM,WN⟩:=QZ;have hul:=WN.length;have h1:=WN.mU hc.2.2;have C0:=KL dM h1;have hal:=hr.length;have apq:arr.size=zs.length:=by simpa using hal
   have gk:off+us.length<=arr.size:=by omega
   have ahi:place i=some (off,us.length):=by rw[B9 i off n P3];congr 2;omega
   obtain⟨f1,f2,f3,rfl,r1,r2,r3⟩:=hr.mid off us.length;have dx:bp (cq C g st w) (ec arr off us).toList (cS zs off vs) (f1++fh++f3):=by rw[wA us arr off gk,aci hul.symm];exact(r1.append WN).append r3
   have zG:∀b∈fh,b∉f1++f2++f3:=by intro b gn hm;obtain⟨j,hj,hlj⟩:=hl b hm;rw[UK b gn]at hlj;simp at hlj;omega
   have Bm:=hn;rw[aP]at Bm;have n1:=aB.1 Bm;have n2:=aB.1 n1.2.1;have ahe:(f1++fh++f3).Nodup:=by rw[aP];refine aB.2 ⟨n1.1,aB.2 ⟨LR,n2.2.1,?_⟩,?_⟩;rintro b gn c Dg rfl;exact zG b gn (by simp[Dg]);rintro b gn c Dg rfl;rcases ay.1 Dg with Dg|Dg;exact zG b Dg (by simp[gn]);exact n1.2.2 b gn b (ba _ Dg) rfl
   obtain⟨iJ,hY,hf,uR,aft,hl'⟩:=Nw h B9 parts (k+1) (ec arr off us) (cS zs off vs) (f1++fh++f3) cs (λj i' v' PV hj=>by have:=hp (j+1) i' v' PV (by simpa using hj);rwa[show k+(j+1)=k+1+j by omega]at this) dx ahe (λb gn=>by simp only[ay]at gn;rcases gn with(gn|gn)|gn;obtain⟨j,hj,hlj⟩:=hl b (by simp[gn]);exact⟨j,by omega,hlj⟩;exact⟨k,by omega,UK b gn⟩;obtain⟨j,hj,hlj⟩:=hl b (by simp[gn]);exact⟨j,by omega,hlj⟩) hb;refine⟨iJ,hY,?_,uR,aft,hl'⟩;rw[List.map_cons,QT ahi C0 gk];exact hf
  cases hb;cases hb
theorem ahJ {α β γ:Type}:∀(l:au α)(m:au β)(n:au γ),l.length=m.length->m.length=n.length->
 ∃ps:au (α×β×γ),ps.map (λx=>(x.1,x.2.1))=l.zip m/\ps.map (λx=>(x.1,x.2.2))=l.zip n/\ps.map (λx=>(x.2.1,x.2.2))=m.zip n
 |[],[],[],_,_=>⟨[],rfl,rfl,rfl⟩
 |x::l,y::m,z::n,h1,h2=>by obtain⟨ps,p1,p2,p3⟩:=ahJ l m n (by simpa using h1) (by simpa using h2);exact⟨(x,y,z)::ps,by simp[p1],by simp[p2],by simp[p3]⟩
 |[],_::_,_,h,_=>by simp at h
 |_::_,[],_,h,_=>by simp at h
 |[],[],_::_,_,h=>by simp at h
 |_::_,_::_,[],_,h=>by simp at h
theorem W7 {E:Env}(hE:jf P E.ty){o:Oper}(ho:o.op=.build T parts)(h:nb C st a w){K:AS->aw R}(hk:CW E o T parts.toList st K=some r):mJ P C o a w K r:=by
 obtain⟨g,hg⟩:=h;unfold CW at hk;split at hk;rename_i ct jJ hT;split at hk;rename_i vs st' sX;split at hk;rename_i cs hbc;obtain⟨g',mI,hlen,xl⟩:=hg.ez (parts.toList.map (·.2));rw[sX]at mI hlen;simp only[bK]at mI hlen;have jZ:=hE T _ hT;obtain⟨inf,z,Dv,sR,_,hz,hzc⟩:=jZ.elem.info;obtain⟨fs,hu,HI⟩:=jZ.agg rfl;have agX:=jZ.count rfl fs hu;have afu:(fs.mapM λf=>do pure (f.offset,<-sizeOf f.type):Sem (Array (Nat×Nat))).run P w=.ok (fs.map λf=>(f.offset,P.cellsOf f.type)) w:=by refine EL _ _ w fs (λf hf=>?_);obtain⟨i,hi,rfl⟩:=Array.mem_iff_getElem.1 hf;obtain⟨apa,ah6⟩:=agX i fs[i] (Array.getElem?_eq_getElem hi);simp[sizeOf,typeInfo,ah6,Program.cellsOf]
 have B9:∀(i fo n:Nat),jJ[i]?=some (fo,n)->(λ(i:Nat)=>(fs.map λf=>(f.offset,P.cellsOf f.type))[i]?) i=some (fo,n):=by intro i fo n hi;obtain⟨fd,hfd,h1,_,apa,h2,h3⟩:=HI i fo n hi;simp only[Array.getElem?_map,hfd,cY,h1,Program.cellsOf,h2,h3,eY]
 have hzero:bp (cq C g' st' w) z.cells.toList (cellsOf ct (.own none) ct.zero) []:=by rw[hzc];exact sa (GY _ _ _)
 have hl1:(parts.toList.map (·.1)).length=((parts.toList.map (·.2)).map a.eval).length:=by simp
 have zH:((parts.toList.map (·.2)).map a.eval).length=vs.length:=by rw[hlen];simp
 obtain⟨ps,p1,p2,p3⟩:=ahJ (parts.toList.map (·.1)) ((parts.toList.map (·.2)).map a.eval) vs hl1 zH;have aoE:xn jJ (cellsOf ct (.own none) ct.zero) (ps.map λx=>(x.1,x.2.2.cells))=some cs:=by
  rw[<-hbc];congr 1;have:(ps.map λx=>(x.1,x.2.2.cells))=(ps.map λx=>(x.1,x.2.2)).map (λy=>(y.1,y.2.cells)):=by simp
  rw[this,p2,List.zip_map_right];simp
 obtain⟨iJ,hY,adk,dx,Bm,hl'⟩:=Nw mI (place:=λ(i:Nat)=>(fs.map λf=>(f.offset,P.cellsOf f.type))[i]?) B9 ps 0 z.cells _ [] cs
  (λj i v av hj=>by
   have h1:(ps.map λx=>(x.2.1,x.2.2))[j]?=some (v,av):=by simp[hj]
   rw[p3]at h1;simpa using h1) hzero (by simp) (by simp) aoE
 have XD:(parts.map λ(i,x)=>(i,a.eval x)).toList=ps.map λx=>(x.1,x.2.1):=by rw[p1];apply cI;intro j;simp[List.zip_eq_zipWith]
 have dA:(execOp a.eval o).run P w=.ok (.value (.agg iJ)) w:=by simp only[execOp,ho,Instr.build,zeroValue,typeInfo,underlying,Sem.run_bind,run_program,Dv,hz,hu,Result.andThen_ok,Sem.run_pure,afu,XD,adk]
 refine⟨.agg iJ,w,_,.inl dA,?_,hk⟩;exact mI.OU o.dst rfl rfl rfl rfl (λt ht=>⟨ht,rfl⟩) (Fr.refl _ _) (λ_ _ _ _=>rfl) (λ_ _ _ ho hu=>⟨ho,hu⟩) ⟨iJ.toList,by simp[Cut],dx⟩ Bm (λb hb=>by obtain⟨j,hj⟩:=hl' b hb;exact⟨(mI.fa b _ hj).1,.inl (by rw[hj];rfl)⟩);cases hk;cases hk
theorem Vh {g:Gh}(h:dk C g st a w hs){e:CT}:
 ∀(parts:au (Nat×Value×AV))(k:Nat)(arr:Array Value)(xs:au e.D)(fps:au dI)(ys:au e.D),(∀j i v av,parts[j]?=some (i,v,av)->hs[k+j]?=some (v,av))->
  (∀j i v av,parts[j]?=some (i,v,av)->i=k+j)->xs.length=k->arr.size=(k+parts.length)*e.size->
  ko g.hw w e (arr.toList.take (k*e.size)) xs fps->fps.flatten.Nodup->(∀b∈fps.flatten,∃j,j<k/\g.dB b=some (.hand j))->
  DD e (parts.map λx=>x.2.2.cells)=some ys->
  ∃iJ Xt,Instr.fill (λi=>some (i*e.size,e.size)) arr (parts.map λx=>(x.1,x.2.1))=some iJ/\iJ.size=arr.size/\ko g.hw w e iJ.toList (xs++ys) Xt/\Xt.flatten.Nodup/\∀b∈Xt.flatten,∃j,g.dB b=some (.hand j)
 |[],k,arr,xs,fps,ys,_,_,hk,sR,Gd,hn,hl,hb=>by simp[DD]at hb;subst hb;have:arr.toList.take (k*e.size)=arr.toList:=bB (by simp at sR⊢;omega);rw[this]at Gd;exact⟨arr,fps,rfl,rfl,by simpa using Gd,hn,λb hb=>let ⟨j,_,hj⟩:=hl b hb;⟨j,hj⟩⟩
 |(i,v,av)::parts,k,arr,xs,fps,ys,hp,hi,hk,sR,Gd,hn,hl,hb=>by
  simp only[List.map_cons,DD]at hb;split at hb;rename_i y Zy;simp only[aK]at hb;obtain⟨zs,hzs,hyz⟩:=hb;simp at hyz;subst hyz;have hik:i=k:=by simpa using hi 0 i v av rfl
  subst hik;obtain⟨fh,QZ,LR,UK⟩:=h.hands i v av (by simpa using hp 0 i v av rfl);cases av with
  |vq ts=>exfalso;revert Zy;simp only[AV.cells];intro Zy;have:=oc (c:=cq C g st w) (vs:=[undef]) (cs:=[.bot]) (fp:=[]) ⟨[],[],rfl,rfl,rfl⟩ Zy;obtain⟨f1,f2,_,eE,_⟩:=this;have h1:=dW.mU eE undef (by cases hz:e.size with|zero=>have:=e.size_pos;omega|succ n=>simp);cases h1
  |val gg vs=>
   simp only[AV.cells]at Zy;obtain⟨us,dM,WN⟩:=QZ;obtain⟨f1,f2,aoM,eE,ji⟩:=oc WN Zy;have UH:us.drop e.size=[]/\f2=[]:=by cases hd:us.drop e.size with|nil=>rw[hd]at ji;exact⟨rfl,ji⟩|cons p q=>rw[hd]at ji;exact ji.elim
   have hul:us.length<=e.size:=by have:=UH.1;rw[List.drop_eq_nil_iff]at this;exact this
   rw[bB hul]at eE;have aho:us.length=e.size:=dW.length eE;have h1:=dW.mU eE;have C0:=KL dM h1;have aaO:arr.size=i*e.size+(parts.length+1)*e.size:=by rw[sR,ca,cl]
   have hpe:e.size<=(parts.length+1)*e.size:=by rw[cl,ei];omega
   have gk:i*e.size+us.length<=arr.size:=by omega
   have P1:fh=f1:=by rw[aoM,UH.2,br]
   subst P1;have sX:(ec arr (i*e.size) us).toList.take ((i+1)*e.size)=arr.toList.take (i*e.size)++us:=by
    rw[wA us arr _ gk];have hl1:(arr.toList.take (i*e.size)++us).length=(i+1)*e.size:=by rw[ar,bn,cl,ei,aho];simp;omega
    rw[List.take_append_of_le_length (by omega),bB (by omega)]
   have XC:ko g.hw w e us [y] [fh]:=by refine⟨by simp[aho],rfl,λj z f hz hf=>?_⟩;cases j with|zero=>simp at hz hf;subst hz;subst hf;rw[Nat.zero_mul,ef,bB (by omega)];exact eE|succ j=>simp at hz
   have aoJ:ko g.hw w e ((ec arr (i*e.size) us).toList.take ((i+1)*e.size)) (xs++[y]) (fps++[fh]):=by rw[sX];exact Gd.append XC
   have zG:∀b∈fh,b∉fps.flatten:=by intro b gn hm;obtain⟨j,hj,hlj⟩:=hl b hm;rw[UK b gn]at hlj;simp at hlj;omega
   obtain⟨iJ,Xt,hf,tV,agY,B8,zH⟩:=Vh h parts (i+1) (ec arr (i*e.size) us) (xs++[y]) (fps++[fh]) zs (λj i' v' PV hj=>by have:=hp (j+1) i' v' PV (by simpa using hj);rwa[show i+(j+1)=i+1+j by omega]at this) (λj i' v' PV hj=>by have:=hi (j+1) i' v' PV (by simpa using hj);omega) (by simp[hk]) (by rw[ik,sR,ca];congr 1;omega) aoJ (by simp only[dD,List.flatten_cons,List.flatten_nil,br];refine aB.2 ⟨hn,LR,?_⟩;rintro b gn c Dg rfl;exact zG b Dg gn) (λb gn=>by simp only[dD,List.flatten_cons,List.flatten_nil,br,ay]at gn;rcases gn with gn|gn;obtain⟨j,hj,hlj⟩:=hl b gn;exact⟨j,by omega,hlj⟩;exact⟨i,by omega,UK b gn⟩) hzs;refine⟨iJ,Xt,?_,by rw[tV,ik],by simpa using agY,B8,zH⟩;rw[List.map_cons,QT (by rw[aho]) C0 gk];exact hf
  cases hb
theorem JK:∀{n:Nat}{l:au (Nat×Operand)},JJ n l=true->∀j i x,l[j]?=some (i,x)->i=n+j
 |_,[],_,j,i,x,h=>by simp at h
 |n,(m,y)::l,h,0,i,x,hj=>by simp only[JJ,ah,bC]at h;simp at hj;rw[<-hj.1];exact h.1
 |n,(m,y)::l,h,j+1,i,x,hj=>by simp only[JJ,ah,bC]at h;have:=JK h.2 j i x (by simpa using hj);omega
theorem MB {E:Env}(hE:jf P E.ty){o:Oper}{len:Nat}(ho:o.op=.buildSlice T len parts)(h:nb C st a w){K:AS->aw R}(hk:lE E o T len parts.toList st K=some r):mJ P C o a w K r:=by
 obtain⟨g,hg⟩:=h;unfold lE at hk;split at hk;rename_i e hT;split at hk;rename_i hc;obtain⟨B9,Jp,hlen⟩:=hc;split at hk;rename_i vs st' sX;split at hk;rename_i xs aoR;obtain⟨g',mI,hvl,xl⟩:=hg.ez (parts.toList.map (·.2));rw[sX]at mI hvl;simp only[bK]at mI hvl;obtain⟨te,hu,⟨inf,z,Dv,sR,hby,hz,hzc⟩,hsm⟩:=GK hE hT;have hl1:(parts.toList.map (·.1)).length=((parts.toList.map (·.2)).map a.eval).length:=by simp
 have zH:((parts.toList.map (·.2)).map a.eval).length=vs.length:=by rw[hvl];simp
 obtain⟨ps,p1,p2,p3⟩:=ahJ (parts.toList.map (·.1)) ((parts.toList.map (·.2)).map a.eval) vs hl1 zH;have ao1:ps.length=len:=by have:=congrArg List.length p1;simp at this;rw[this,<-B9];simp
 have aic:DD e (ps.map λx=>x.2.2.cells)=some xs:=by
  rw[<-aoR];congr 1;have:(ps.map λx=>x.2.2.cells)=(ps.map λx=>(x.1,x.2.2)).map (λy=>y.2.cells):=by simp
  rw[this,p2];have h2:((parts.toList.map (·.1)).zip vs).map (λy=>y.2.cells)=(((parts.toList.map (·.1)).zip vs).map Prod.snd).map AV.cells:=by simp
  rw[h2,List.map_snd_zip (by rw[<-zH,<-hl1];exact aX _)]
 have XD:(parts.map λ(i,x)=>(i,a.eval x)).toList=ps.map λx=>(x.1,x.2.1):=by rw[p1];apply cI;intro j;simp[List.zip_eq_zipWith]
 have hzs:z.cells.size=e.size:=by rw[<-pg e,<-hzc];simp
 let ahU:Array Value:=madeCells (if len*e.size=0 then #[] else z.cells) (len*e.size);have ha0:ahU.size=len*e.size:=size_madeCells _ _
 obtain⟨iJ,Xt,adk,tV,Gd,Bm,hl'⟩:=Vh mI (e:=e) ps 0 ahU [] [] xs
  (λj i v av hj=>by
   have h1:(ps.map λx=>(x.2.1,x.2.2))[j]?=some (v,av):=by simp[hj]
   rw[p3]at h1;simpa using h1)
  (λj i v av hj=>by
   have h1:(ps.map λx=>(x.1,x.2.1))[j]?=some (i,v):=by simp[hj]
   rw[p1]at h1;rw[List.getElem?_zip_eq_some]at h1;have h2:=h1.1;rw[List.getElem?_map]at h2;cases hq:parts.toList[j]? with|none=>rw[hq]at h2;cases h2|some q=>rw[hq]at h2;simp at h2;have:=JK Jp j q.1 q.2 hq;omega) rfl (by rw[ha0,ao1];simp) (by simpa using ko.nil _ _ _) (by simp) (by simp) aic
 have hxl:xs.length=len:=by have h1:=Gd.1;rw[Array.length_toList,tV,ha0,bK]at h1;exact(Nat.eq_of_mul_eq_mul_right e.size_pos h1).symm
 have ao4:¬(16777216<len*e.size):=by have:len*e.size<=1000*4096:=Nat.mul_le_mul hlen hsm;omega
 have dA:(execOp a.eval o).run P w=.ok (.value (.slice (some ⟨w.heap.size,0,none⟩) len len)) (w.alloc (.cells iJ te)):=by
  have SE:Instr.fill (λi=>some (i*e.size,e.size)) ((Array.range (len*e.size)).map ((if len*e.size=0 then(#[]:Array Value) else z.cells)[·%(if len*e.size=0 then(#[]:Array Value) else z.cells).size]!)) (parts.map λ(i,x)=>(i,a.eval x)).toList=some iJ:=by rw[XD];exact adk
  by_cases h0:len*e.size=0;rw[aF h0]at SE;simp only[execOp,ho,Instr.buildSlice,underlying,Sem.run_bind,run_program,hu,Result.andThen_ok,Sem.run_pure,sizeOf,typeInfo,Dv,sR];rw[mG,aF h0];simp only[Sem.run_pure,Result.andThen_ok,SE,newRow,Sem.run_bind,run_newObj];rfl;rw[aE h0]at SE;simp only[execOp,ho,Instr.buildSlice,underlying,Sem.run_bind,run_program,hu,Result.andThen_ok,Sem.run_pure,sizeOf,typeInfo,Dv,sR];rw[mG,aE h0];simp only[zeroValue,typeInfo,Sem.run_bind,run_program,Dv,hz,Sem.run_pure,Result.andThen_ok,SE,newRow,run_newObj];rfl
 refine⟨_,_,_,.inl dA,?_,hk⟩;have agY:ko g'.hw w e (iJ.toList.take (xs.length*e.size)) xs Xt:=by rw[bB (by rw[Array.length_toList,tV,ha0,hxl];exact aX _)];simpa using Gd
 have:=mI.OI o.dst (T:=te) (fr:=(0,0)) (cap:=len) (.inl rfl) (by intro j _;simp) (by rw[tV,ha0]) (by omega) agY Bm (λb hb=>by obtain⟨j,hj⟩:=hl' b hb;rw[hj];rfl);rw[hxl]at this;exact this;cases hk;cases hk;cases hk
end Go.Dn
