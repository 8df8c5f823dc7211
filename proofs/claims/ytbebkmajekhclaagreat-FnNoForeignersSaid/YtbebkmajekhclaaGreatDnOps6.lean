import Derived.Test.YtbebkmajekhclaaGreatDnOps5
/- Part 6: structs and slices that are built; append. -/
namespace Go.Dn
open Go.RowKit
variable {P:Program} {C:Ctx} {st:AS} {a:Act} {w:World} {R:Type} {r:R}
variable {parts:Array (Nat×Operand)} {place:Nat->az (Nat×Nat)} {T:TypeId} {hs:ax (Value×AV)}
theorem eJ.fO:∀(xs:ax Operand){g:Gh}{st:AS}{hs:ax (Value×AV)},eJ C g st a w hs->
 ∃g',eJ C g' (fO st xs).2 a w (hs++(xs.map a.eval).zip (fO st xs).1)/\(fO st xs).1.length=xs.length/\(fO st xs).2.ep=st.ep
 |[],g,st,hs,h=>⟨g,by simpa[Dn.fO]using h,rfl,rfl⟩
 |x::xs,g,st,hs,h=>by obtain⟨g1,h1⟩:=h.take x;obtain⟨g2,h2,hl,Aw⟩:=eJ.fO xs h1;refine⟨g2,?_,by simp[Dn.fO,hl],by simp only[Dn.fO];rw[Aw,Wn]⟩;simpa[Dn.fO]using h2
theorem Zu {α β:Type}(f:α->Sem β)(gf:α->β)(w:World):∀(l:ax α),(∀x∈l,(f x).run P w=.ok (gf x) w)->(l.mapM f).run P w=.ok (l.map gf) w
 |[],_=>by simp
 |x::l,h=>by rw[List.mapM_cons];simp only[Sem.run_bind,h x (by simp),Result.andThen_ok,Zu f gf w l (λy hy=>h y (dY _ hy)),Sem.run_pure,dk]
theorem E9 {α β:Type}(f:α->Sem β)(gf:α->β)(w:World)(l:Array α)(h:∀x∈l,(f x).run P w=.ok (gf x) w):(l.mapM f).run P w=.ok (l.map gf) w:=by rw[Array.mapM_eq_mapM_toList,Sem.run_map,Zu f gf w l.toList (λx hx=>h x (by simpa using hx))];simp only[Result.andThen_ok,Result.ok.injEq,jw];apply fR;simp
theorem Rr (us:jt):∀(arr:Array Value)(off j:Nat),((us.zipIdx j).foldl (λcs (x:Value×Nat)=>cs.setIfInBounds (off+x.2) x.1) arr)=fA arr (off+j) us:=by induction us with|nil=>intro arr off j;rfl|cons u us ih=>intro arr off j;rw[List.zipIdx_cons,du,ih];rfl
theorem SM {cells:Array Value}{i:Nat}{v:Value}{rest:ax (Nat×Value)}{off:Nat}{us:jt}(hp:place i=some (off,us.length))(hv:v.cells.toList=us)(iw:off+us.length<=cells.size):Instr.fill place cells ((i,v)::rest)=Instr.fill place (fA cells off us) rest:=by
 have vZ:v.cells.size=us.length:=by rw[<-hv];simp
 rw[Instr.fill,hp];simp only[vZ];rw[aG (by simp;omega)];congr 1;have:v.cells=us.toArray:=by apply fR;simpa using hv
 rw[this];have h2:=Rr us cells off 0;rw[eP]at h2;rw[<-h2];rw[<-Array.foldl_toList];simp
theorem ahh {cs vs:ax AC}{off n:Nat}(h:vs.length=n):eZ cs off vs=cs.take off++vs++cs.drop (off+n):=by simp only[eZ];rw[h]
theorem OW {g:Gh}(h:eJ C g st a w hs){kU:ax (Nat×Nat)}(Hu:∀i fo n,kU[i]?=some (fo,n)->place i=some (fo,n)):
 ∀(parts:ax (Nat×Value×AV))(k:Nat)(arr:Array Value)(zs:ax AC)(fp:fK)(cs:ax AC),(∀j i v av,parts[j]?=some (i,v,av)->hs[k+j]?=some (v,av))->
  bU (df C g st w) arr.toList zs fp->fp.Nodup->(∀b∈fp,∃j,j<k/\g.ft b=some (.hand j))->
  yu kU zs (parts.map λx=>(x.1,x.2.2.cells))=some cs->
  ∃jL lx,Instr.fill place arr (parts.map λx=>(x.1,x.2.1))=some jL/\bU (df C g st w) jL.toList cs lx/\lx.Nodup/\∀b∈lx,∃j,g.ft b=some (.hand j)
 |[],k,arr,zs,fp,cs,_,hr,hn,hl,hb=>by simp[yu]at hb;subst hb;exact⟨arr,fp,rfl,hr,hn,λb hb=>let ⟨j,_,hj⟩:=hl b hb;⟨j,hj⟩⟩
 |(i,v,av)::parts,k,arr,zs,fp,cs,hp,hr,hn,hl,hb=>by
  simp only[dk,yu,eH]at hb;split at hb;rename_i off n RU;split at hb;rename_i hc;obtain⟨fh,S3,Rz,XO⟩:=h.hands k v av (by simpa using hp 0 i v av rfl);cases av with
  |yh ts=>simp[AV.cells,AC.KS]at hc
  |val gg vs=>
   simp only[AV.cells]at hc hb;obtain⟨us,gb,hrh⟩:=S3;have hul:=hrh.length;have h1:=hrh.oy hc.2.2;have DC:=Lt gb h1;have hal:=hr.length;have awn:arr.size=zs.length:=by simpa using hal
   have iw:off+us.length<=arr.size:=by omega
   have aoy:place i=some (off,us.length):=by rw[Hu i off n RU];congr 2;omega
   obtain⟨f1,f2,f3,rfl,r1,r2,r3⟩:=hr.mid off us.length;have fM:bU (df C g st w) (fA arr off us).toList (eZ zs off vs) (f1++fh++f3):=by rw[xH us arr off iw,ahh hul.symm];exact(r1.append hrh).append r3
   have FI:∀b∈fh,b∉f1++f2++f3:=by intro b iI hm;obtain⟨j,hj,hlj⟩:=hl b hm;rw[XO b iI]at hlj;simp at hlj;omega
   have D7:=hn;rw[aL]at D7;have n1:=aQ.1 D7;have n2:=aQ.1 n1.2.1;have aou:(f1++fh++f3).Nodup:=by rw[aL];refine aQ.2 ⟨n1.1,aQ.2 ⟨Rz,n2.2.1,?_⟩,?_⟩;rintro b iI c CJ rfl;exact FI b iI (by simp[CJ]);rintro b iI c CJ rfl;rcases ay.1 CJ with CJ|CJ;exact FI b CJ (by simp[iI]);exact n1.2.2 b iI b (bw _ CJ) rfl
   obtain⟨jL,lx,hf,yo,avF,hl'⟩:=OW h Hu parts (k+1) (fA arr off us) (eZ zs off vs) (f1++fh++f3) cs (λj i' v' RG hj=>by have:=hp (j+1) i' v' RG (by simpa using hj);rwa[show k+(j+1)=k+1+j by omega]at this) fM aou (λb iI=>by simp only[ay]at iI;rcases iI with(iI|iI)|iI;obtain⟨j,hj,hlj⟩:=hl b (by simp[iI]);exact⟨j,by omega,hlj⟩;exact⟨k,by omega,XO b iI⟩;obtain⟨j,hj,hlj⟩:=hl b (by simp[iI]);exact⟨j,by omega,hlj⟩) hb;refine⟨jL,lx,?_,yo,avF,hl'⟩;rw[dk,SM aoy DC iw];exact hf
  cases hb;cases hb
theorem apI {α β γ:Type}:∀(l:ax α)(m:ax β)(n:ax γ),l.length=m.length->m.length=n.length->
 ∃ps:ax (α×β×γ),ps.map (λx=>(x.1,x.2.1))=l.zip m/\ps.map (λx=>(x.1,x.2.2))=l.zip n/\ps.map (λx=>(x.2.1,x.2.2))=m.zip n
 |[],[],[],_,_=>⟨[],rfl,rfl,rfl⟩
 |x::l,y::m,z::n,h1,h2=>by obtain⟨ps,p1,p2,p3⟩:=apI l m n (by simpa using h1) (by simpa using h2);exact⟨(x,y,z)::ps,by simp[p1],by simp[p2],by simp[p3]⟩
 |[],_::_,_,h,_=>by simp at h
 |_::_,[],_,h,_=>by simp at h
 |[],[],_::_,_,h=>by simp at h
 |_::_,_::_,[],_,h=>by simp at h
theorem aas {E:Env}(hE:kq P E.ty){o:Oper}(ho:o.op=.build T parts)(h:pL C st a w){K:AS->az R}(hk:Dv E o T parts.toList st K=some r):oa P C o a w K r:=by
 obtain⟨g,hg⟩:=h;unfold Dv at hk;split at hk;rename_i ct kU hT;split at hk;rename_i vs bZ uH;split at hk;rename_i cs hbc;obtain⟨g',pJ,hlen,Aw⟩:=hg.fO (parts.toList.map (·.2));rw[uH]at pJ hlen;simp only[cd]at pJ hlen;have pK:=hE T _ hT;obtain⟨inf,z,D6,vZ,_,hz,hzc⟩:=pK.elem.info;obtain⟨fs,hu,Jp⟩:=pK.agg rfl;have aof:=pK.count rfl fs hu;have alU:(fs.mapM λf=>do pure (f.offset,<-sizeOf f.type):Sem (Array (Nat×Nat))).run P w=.ok (fs.map λf=>(f.offset,P.cellsOf f.type)) w:=by refine E9 _ _ w fs (λf hf=>?_);obtain⟨i,hi,rfl⟩:=Array.mem_iff_getElem.1 hf;obtain⟨avV,aqv⟩:=aof i fs[i] (Array.getElem?_eq_getElem hi);simp[sizeOf,typeInfo,aqv,Program.cellsOf]
 have Hu:∀(i fo n:Nat),kU[i]?=some (fo,n)->(λ(i:Nat)=>(fs.map λf=>(f.offset,P.cellsOf f.type))[i]?) i=some (fo,n):=by intro i fo n hi;obtain⟨fd,hfd,h1,_,avV,h2,h3⟩:=Jp i fo n hi;simp only[Array.getElem?_map,hfd,dH,h1,Program.cellsOf,h2,h3,gr]
 have hzero:bU (df C g' bZ w) z.cells.toList (cellsOf ct (.own none) ct.zero) []:=by rw[hzc];exact BP (G6 _ _ _)
 have hl1:(parts.toList.map (·.1)).length=((parts.toList.map (·.2)).map a.eval).length:=by simp
 have BK:((parts.toList.map (·.2)).map a.eval).length=vs.length:=by rw[hlen];simp
 obtain⟨ps,p1,p2,p3⟩:=apI (parts.toList.map (·.1)) ((parts.toList.map (·.2)).map a.eval) vs hl1 BK;have avp:yu kU (cellsOf ct (.own none) ct.zero) (ps.map λx=>(x.1,x.2.2.cells))=some cs:=by
  rw[<-hbc];congr 1;have:(ps.map λx=>(x.1,x.2.2.cells))=(ps.map λx=>(x.1,x.2.2)).map (λy=>(y.1,y.2.cells)):=by simp
  rw[this,p2,List.zip_map_right];simp
 obtain⟨jL,lx,ai3,fM,D7,hl'⟩:=OW pJ (place:=λ(i:Nat)=>(fs.map λf=>(f.offset,P.cellsOf f.type))[i]?) Hu ps 0 z.cells _ [] cs
  (λj i v av hj=>by
   have h1:(ps.map λx=>(x.2.1,x.2.2))[j]?=some (v,av):=by simp[hj]
   rw[p3]at h1;simpa using h1) hzero (by simp) (by simp) avp
 have abC:(parts.map λ(i,x)=>(i,a.eval x)).toList=ps.map λx=>(x.1,x.2.1):=by rw[p1];apply cS;intro j;simp[List.zip_eq_zipWith]
 have fg:(execOp a.eval o).run P w=.ok (.value (.agg jL)) w:=by simp only[execOp,ho,Instr.build,zeroValue,typeInfo,underlying,Sem.run_bind,run_program,D6,hz,hu,Result.andThen_ok,Sem.run_pure,alU,abC,ai3]
 refine⟨.agg jL,w,_,.inl fg,?_,hk⟩;exact pJ.QE o.dst rfl rfl rfl rfl (λt ht=>⟨ht,rfl⟩) (Fr.refl _ _) (λ_ _ _ _=>rfl) (λ_ _ _ ho hu=>⟨ho,hu⟩) ⟨jL.toList,by simp[Cut],fM⟩ D7 (λb hb=>by obtain⟨j,hj⟩:=hl' b hb;exact⟨(pJ.gW b _ hj).1,.inl (by rw[hj];rfl)⟩);cases hk;cases hk
theorem YD {g:Gh}(h:eJ C g st a w hs){e:CT}:
 ∀(parts:ax (Nat×Value×AV))(k:Nat)(arr:Array Value)(xs:ax e.D)(fps:ax fK)(ys:ax e.D),(∀j i v av,parts[j]?=some (i,v,av)->hs[k+j]?=some (v,av))->
  (∀j i v av,parts[j]?=some (i,v,av)->i=k+j)->xs.length=k->arr.size=(k+parts.length)*e.size->
  lH g.hw w e (arr.toList.take (k*e.size)) xs fps->fps.flatten.Nodup->(∀b∈fps.flatten,∃j,j<k/\g.ft b=some (.hand j))->
  Ei e (parts.map λx=>x.2.2.cells)=some ys->
  ∃jL abq,Instr.fill (λi=>some (i*e.size,e.size)) arr (parts.map λx=>(x.1,x.2.1))=some jL/\jL.size=arr.size/\lH g.hw w e jL.toList (xs++ys) abq/\abq.flatten.Nodup/\∀b∈abq.flatten,∃j,g.ft b=some (.hand j)
 |[],k,arr,xs,fps,ys,_,_,hk,vZ,Gj,hn,hl,hb=>by simp[Ei]at hb;subst hb;have:arr.toList.take (k*e.size)=arr.toList:=cf (by simp at vZ⊢;omega);rw[this]at Gj;exact⟨arr,fps,rfl,rfl,by simpa using Gj,hn,λb hb=>let ⟨j,_,hj⟩:=hl b hb;⟨j,hj⟩⟩
 |(i,v,av)::parts,k,arr,xs,fps,ys,hp,hi,hk,vZ,Gj,hn,hl,hb=>by
  simp only[dk,Ei]at hb;split at hb;rename_i y hof;simp only[aZ]at hb;obtain⟨zs,hzs,hyz⟩:=hb;simp at hyz;subst hyz;have hik:i=k:=by simpa using hi 0 i v av rfl
  subst hik;obtain⟨fh,S3,Rz,XO⟩:=h.hands i v av (by simpa using hp 0 i v av rfl);cases av with
  |yh ts=>exfalso;revert hof;simp only[AV.cells];intro hof;have:=Ah (c:=df C g st w) (vs:=[undef]) (cs:=[.bot]) (fp:=[]) ⟨[],[],rfl,rfl,rfl⟩ hof;obtain⟨f1,f2,_,iz,_⟩:=this;have h1:=fZ.oy iz undef (by cases hz:e.size with|zero=>have:=e.size_pos;omega|succ n=>simp);cases h1
  |val gg vs=>
   simp only[AV.cells]at hof;obtain⟨us,gb,hrh⟩:=S3;obtain⟨f1,f2,avw,iz,wy⟩:=Ah hrh hof;have XK:us.drop e.size=[]/\f2=[]:=by cases hd:us.drop e.size with|nil=>rw[hd]at wy;exact⟨rfl,wy⟩|cons p q=>rw[hd]at wy;exact wy.elim
   have hul:us.length<=e.size:=by have:=XK.1;rw[List.drop_eq_nil_iff]at this;exact this
   rw[cf hul]at iz;have aoE:us.length=e.size:=fZ.length iz;have h1:=fZ.oy iz;have DC:=Lt gb h1;have afy:arr.size=i*e.size+(parts.length+1)*e.size:=by rw[vZ,aU,cU]
   have hpe:e.size<=(parts.length+1)*e.size:=by rw[cU,fX];omega
   have iw:i*e.size+us.length<=arr.size:=by omega
   have RP:fh=f1:=by rw[avw,XK.2,bD]
   subst RP;have uH:(fA arr (i*e.size) us).toList.take ((i+1)*e.size)=arr.toList.take (i*e.size)++us:=by
    rw[xH us arr _ iw];have hl1:(arr.toList.take (i*e.size)++us).length=(i+1)*e.size:=by rw[ai,aV,cU,fX,aoE];simp;omega
    rw[List.take_append_of_le_length (by omega),cf (by omega)]
   have abB:lH g.hw w e us [y] [fh]:=by refine⟨by simp[aoE],rfl,λj z f hz hf=>?_⟩;cases j with|zero=>simp at hz hf;subst hz;subst hf;rw[Nat.zero_mul,eL,cf (by omega)];exact iz|succ j=>simp at hz
   have avt:lH g.hw w e ((fA arr (i*e.size) us).toList.take ((i+1)*e.size)) (xs++[y]) (fps++[fh]):=by rw[uH];exact Gj.append abB
   have FI:∀b∈fh,b∉fps.flatten:=by intro b iI hm;obtain⟨j,hj,hlj⟩:=hl b hm;rw[XO b iI]at hlj;simp at hlj;omega
   obtain⟨jL,abq,hf,yp,aog,BL,BK⟩:=YD h parts (i+1) (fA arr (i*e.size) us) (xs++[y]) (fps++[fh]) zs (λj i' v' RG hj=>by have:=hp (j+1) i' v' RG (by simpa using hj);rwa[show i+(j+1)=i+1+j by omega]at this) (λj i' v' RG hj=>by have:=hi (j+1) i' v' RG (by simpa using hj);omega) (by simp[hk]) (by rw[jn,vZ,aU];congr 1;omega) avt (by simp only[eR,List.flatten_cons,List.flatten_nil,bD];refine aQ.2 ⟨hn,Rz,?_⟩;rintro b iI c CJ rfl;exact FI b CJ iI) (λb iI=>by simp only[eR,List.flatten_cons,List.flatten_nil,bD,ay]at iI;rcases iI with iI|iI;obtain⟨j,hj,hlj⟩:=hl b iI;exact⟨j,by omega,hlj⟩;exact⟨i,by omega,XO b iI⟩) hzs;refine⟨jL,abq,?_,by rw[yp,jn],by simpa using aog,BL,BK⟩;rw[dk,SM (by rw[aoE]) DC iw];exact hf
  cases hb
theorem Kk:∀{n:Nat}{l:ax (Nat×Operand)},Kj n l=true->∀j i x,l[j]?=some (i,x)->i=n+j
 |_,[],_,j,i,x,h=>by simp at h
 |n,(m,y)::l,h,0,i,x,hj=>by simp only[Kj,ae,bg]at h;simp at hj;rw[<-hj.1];exact h.1
 |n,(m,y)::l,h,j+1,i,x,hj=>by simp only[Kj,ae,bg]at h;have:=Kk h.2 j i x (by simpa using hj);omega
theorem NS {E:Env}(hE:kq P E.ty){o:Oper}{len:Nat}(ho:o.op=.buildSlice T len parts)(h:pL C st a w){K:AS->az R}(hk:mY E o T len parts.toList st K=some r):oa P C o a w K r:=by
 obtain⟨g,hg⟩:=h;unfold mY at hk;split at hk;rename_i e hT;split at hk;rename_i hc;obtain⟨Hu,RS,hlen⟩:=hc;split at hk;rename_i vs bZ uH;split at hk;rename_i xs avB;obtain⟨g',pJ,hvl,Aw⟩:=hg.fO (parts.toList.map (·.2));rw[uH]at pJ hvl;simp only[cd]at pJ hvl;obtain⟨te,hu,⟨inf,z,D6,vZ,hby,hz,hzc⟩,hsm⟩:=GP hE hT;have hl1:(parts.toList.map (·.1)).length=((parts.toList.map (·.2)).map a.eval).length:=by simp
 have BK:((parts.toList.map (·.2)).map a.eval).length=vs.length:=by rw[hvl];simp
 obtain⟨ps,p1,p2,p3⟩:=apI (parts.toList.map (·.1)) ((parts.toList.map (·.2)).map a.eval) vs hl1 BK;have avM:ps.length=len:=by have:=congrArg List.length p1;simp at this;rw[this,<-Hu];simp
 have aqB:Ei e (ps.map λx=>x.2.2.cells)=some xs:=by
  rw[<-avB];congr 1;have:(ps.map λx=>x.2.2.cells)=(ps.map λx=>(x.1,x.2.2)).map (λy=>y.2.cells):=by simp
  rw[this,p2];have h2:((parts.toList.map (·.1)).zip vs).map (λy=>y.2.cells)=(((parts.toList.map (·.1)).zip vs).map Prod.snd).map AV.cells:=by simp
  rw[h2,List.map_snd_zip (by rw[<-BK,<-hl1];exact bj _)]
 have abC:(parts.map λ(i,x)=>(i,a.eval x)).toList=ps.map λx=>(x.1,x.2.1):=by rw[p1];apply cS;intro j;simp[List.zip_eq_zipWith]
 have hzs:z.cells.size=e.size:=by rw[<-qW e,<-hzc];simp
 let aqf:Array Value:=madeCells (if len*e.size=0 then #[] else z.cells) (len*e.size);have ha0:aqf.size=len*e.size:=size_madeCells _ _
 obtain⟨jL,abq,ai3,yp,Gj,D7,hl'⟩:=YD pJ (e:=e) ps 0 aqf [] [] xs
  (λj i v av hj=>by
   have h1:(ps.map λx=>(x.2.1,x.2.2))[j]?=some (v,av):=by simp[hj]
   rw[p3]at h1;simpa using h1)
  (λj i v av hj=>by
   have h1:(ps.map λx=>(x.1,x.2.1))[j]?=some (i,v):=by simp[hj]
   rw[p1]at h1;rw[List.getElem?_zip_eq_some]at h1;have h2:=h1.1;rw[eU]at h2;cases hq:parts.toList[j]? with|none=>rw[hq]at h2;cases h2|some q=>rw[hq]at h2;simp at h2;have:=Kk RS j q.1 q.2 hq;omega) rfl (by rw[ha0,avM];simp) (by simpa using lH.nil _ _ _) (by simp) (by simp) aqB
 have hxl:xs.length=len:=by have h1:=Gj.1;rw[Array.length_toList,yp,ha0,cd]at h1;exact(Nat.eq_of_mul_eq_mul_right e.size_pos h1).symm
 have avP:¬(16777216<len*e.size):=by have:len*e.size<=1000*4096:=Nat.mul_le_mul hlen hsm;omega
 have fg:(execOp a.eval o).run P w=.ok (.value (.slice (some ⟨w.heap.size,0,none⟩) len len)) (w.alloc (.cells jL te)):=by
  have Vi:Instr.fill (λi=>some (i*e.size,e.size)) ((Array.range (len*e.size)).map ((if len*e.size=0 then(#[]:Array Value) else z.cells)[·%(if len*e.size=0 then(#[]:Array Value) else z.cells).size]!)) (parts.map λ(i,x)=>(i,a.eval x)).toList=some jL:=by rw[abC];exact ai3
  by_cases h0:len*e.size=0;rw[aI h0]at Vi;simp only[execOp,ho,Instr.buildSlice,underlying,Sem.run_bind,run_program,hu,Result.andThen_ok,Sem.run_pure,sizeOf,typeInfo,D6,vZ];rw[nU,aI h0];simp only[Sem.run_pure,Result.andThen_ok,Vi,newRow,Sem.run_bind,run_newObj];rfl;rw[aG h0]at Vi;simp only[execOp,ho,Instr.buildSlice,underlying,Sem.run_bind,run_program,hu,Result.andThen_ok,Sem.run_pure,sizeOf,typeInfo,D6,vZ];rw[nU,aG h0];simp only[zeroValue,typeInfo,Sem.run_bind,run_program,D6,hz,Sem.run_pure,Result.andThen_ok,Vi,newRow,run_newObj];rfl
 refine⟨_,_,_,.inl fg,?_,hk⟩;have aog:lH g'.hw w e (jL.toList.take (xs.length*e.size)) xs abq:=by rw[cf (by rw[Array.length_toList,yp,ha0,hxl];exact bj _)];simpa using Gj
 have:=pJ.Qs o.dst (T:=te) (fr:=(0,0)) (cap:=len) (.inl rfl) (by intro j _;simp) (by rw[yp,ha0]) (by omega) aog D7 (λb hb=>by obtain⟨j,hj⟩:=hl' b hb;rw[hj];rfl);rw[hxl]at this;exact this;cases hk;cases hk;cases hk
end Go.Dn
