import Derived.Test.YtbebkmajekhclaaGreatDnOps5
/- Part 6: structs and slices that are built; append. -/
namespace Go.Dn
open Go.RowKit
variable {P:Program} {C:Ctx} {st:AS} {a:Act} {w:World} {R:Type} {r:R}
variable {parts:Array (Nat×Operand)} {place:Nat->az (Nat×Nat)} {T:TypeId} {hs:aw (Value×AV)}
theorem eE.fM:∀(xs:aw Operand){g:Gh}{st:AS}{hs:aw (Value×AV)},eE C g st a w hs->
 ∃g',eE C g' (fM st xs).2 a w (hs++(xs.map a.eval).zip (fM st xs).1)/\(fM st xs).1.length=xs.length/\(fM st xs).2.ep=st.ep
 |[],g,st,hs,h=>⟨g,by simpa[Dn.fM]using h,rfl,rfl⟩
 |x::xs,g,st,hs,h=>by obtain⟨g1,h1⟩:=h.take x;obtain⟨g2,h2,hl,Bs⟩:=eE.fM xs h1;refine⟨g2,?_,by simp[Dn.fM,hl],by simp only[Dn.fM];rw[Bs,XT]⟩;simpa[Dn.fM]using h2
theorem aa0 {α β:Type}(f:α->Sem β)(gf:α->β)(w:World):∀(l:aw α),(∀x∈l,(f x).run P w=.ok (gf x) w)->(l.mapM f).run P w=.ok (l.map gf) w
 |[],_=>by simp
 |x::l,h=>by rw[List.mapM_cons];simp only[Sem.run_bind,h x (by simp),Result.andThen_ok,aa0 f gf w l (λy hy=>h y (eY _ hy)),Sem.run_pure,db]
theorem Gr {α β:Type}(f:α->Sem β)(gf:α->β)(w:World)(l:Array α)(h:∀x∈l,(f x).run P w=.ok (gf x) w):(l.mapM f).run P w=.ok (l.map gf) w:=by rw[Array.mapM_eq_mapM_toList,Sem.run_map,aa0 f gf w l.toList (λx hx=>h x (by simpa using hx))];simp only[Result.andThen_ok,Result.ok.injEq,jg];apply fN;simp
theorem SN (us:jf):∀(arr:Array Value)(off j:Nat),((us.zipIdx j).foldl (λcs (x:Value×Nat)=>cs.setIfInBounds (off+x.2) x.1) arr)=fw arr (off+j) us:=by induction us with|nil=>intro arr off j;rfl|cons u us ih=>intro arr off j;rw[List.zipIdx_cons,dL,ih];rfl
theorem Ud {cells:Array Value}{i:Nat}{v:Value}{rest:aw (Nat×Value)}{off:Nat}{us:jf}(hp:place i=some (off,us.length))(hv:v.cells.toList=us)(ik:off+us.length<=cells.size):Instr.fill place cells ((i,v)::rest)=Instr.fill place (fw cells off us) rest:=by
 have uU:v.cells.size=us.length:=by rw[<-hv];simp
 rw[Instr.fill,hp];simp only[uU];rw[aK (by simp;omega)];congr 1;have:v.cells=us.toArray:=by apply fN;simpa using hv
 rw[this];have h2:=SN us cells off 0;rw[eN]at h2;rw[<-h2];rw[<-Array.foldl_toList];simp
theorem aiR {cs vs:aw AC}{off n:Nat}(h:vs.length=n):eX cs off vs=cs.take off++vs++cs.drop (off+n):=by simp only[eX];rw[h]
theorem Qa {g:Gh}(h:eE C g st a w hs){kF:aw (Nat×Nat)}(Ha:∀i fo n,kF[i]?=some (fo,n)->place i=some (fo,n)):
 ∀(parts:aw (Nat×Value×AV))(k:Nat)(arr:Array Value)(zs:aw AC)(fp:fA)(cs:aw AC),(∀j i v av,parts[j]?=some (i,v,av)->hs[k+j]?=some (v,av))->
  ca (dq C g st w) arr.toList zs fp->fp.Nodup->(∀b∈fp,∃j,j<k/\g.fj b=some (.hand j))->
  yP kF zs (parts.map λx=>(x.1,x.2.2.cells))=some cs->
  ∃jv ld,Instr.fill place arr (parts.map λx=>(x.1,x.2.1))=some jv/\ca (dq C g st w) jv.toList cs ld/\ld.Nodup/\∀b∈ld,∃j,g.fj b=some (.hand j)
 |[],k,arr,zs,fp,cs,_,hr,hn,hl,hb=>by simp[yP]at hb;subst hb;exact⟨arr,fp,rfl,hr,hn,λb hb=>let ⟨j,_,hj⟩:=hl b hb;⟨j,hj⟩⟩
 |(i,v,av)::parts,k,arr,zs,fp,cs,hp,hr,hn,hl,hb=>by
  simp only[db,yP,ez]at hb;split at hb;rename_i off n Tg;split at hb;rename_i hc;obtain⟨fh,UE,SR,Zs⟩:=h.hands k v av (by simpa using hp 0 i v av rfl);cases av with
  |yC ts=>simp[AV.cells,AC.L3]at hc
  |val gg vs=>
   simp only[AV.cells]at hc hb;obtain⟨us,fU,hrh⟩:=UE;have hul:=hrh.length;have h1:=hrh.nS hc.2.2;have EA:=ML fU h1;have hal:=hr.length;have ay8:arr.size=zs.length:=by simpa using hal
   have ik:off+us.length<=arr.size:=by omega
   have aqz:place i=some (off,us.length):=by rw[Ha i off n Tg];congr 2;omega
   obtain⟨f1,f2,f3,rfl,r1,r2,r3⟩:=hr.mid off us.length;have fO:ca (dq C g st w) (fw arr off us).toList (eX zs off vs) (f1++fh++f3):=by rw[xR us arr off ik,aiR hul.symm];exact(r1.append hrh).append r3
   have G9:∀b∈fh,b∉f1++f2++f3:=by intro b iz hm;obtain⟨j,hj,hlj⟩:=hl b hm;rw[Zs b iz]at hlj;simp at hlj;omega
   have Fb:=hn;rw[bj]at Fb;have n1:=aQ.1 Fb;have n2:=aQ.1 n1.2.1;have aqv:(f1++fh++f3).Nodup:=by rw[bj];refine aQ.2 ⟨n1.1,aQ.2 ⟨SR,n2.2.1,?_⟩,?_⟩;rintro b iz c Cy rfl;exact G9 b iz (by simp[Cy]);rintro b iz c Cy rfl;rcases aA.1 Cy with Cy|Cy;exact G9 b Cy (by simp[iz]);exact n1.2.2 b iz b (bD _ Cy) rfl
   obtain⟨jv,ld,hf,yM,ayr,hl'⟩:=Qa h Ha parts (k+1) (fw arr off us) (eX zs off vs) (f1++fh++f3) cs (λj i' v' S2 hj=>by have:=hp (j+1) i' v' S2 (by simpa using hj);rwa[show k+(j+1)=k+1+j by omega]at this) fO aqv (λb iz=>by simp only[aA]at iz;rcases iz with(iz|iz)|iz;obtain⟨j,hj,hlj⟩:=hl b (by simp[iz]);exact⟨j,by omega,hlj⟩;exact⟨k,by omega,Zs b iz⟩;obtain⟨j,hj,hlj⟩:=hl b (by simp[iz]);exact⟨j,by omega,hlj⟩) hb;refine⟨jv,ld,?_,yM,ayr,hl'⟩;rw[db,Ud aqz EA ik];exact hf
  cases hb;cases hb
theorem arL {α β γ:Type}:∀(l:aw α)(m:aw β)(n:aw γ),l.length=m.length->m.length=n.length->
 ∃ps:aw (α×β×γ),ps.map (λx=>(x.1,x.2.1))=l.zip m/\ps.map (λx=>(x.1,x.2.2))=l.zip n/\ps.map (λx=>(x.2.1,x.2.2))=m.zip n
 |[],[],[],_,_=>⟨[],rfl,rfl,rfl⟩
 |x::l,y::m,z::n,h1,h2=>by obtain⟨ps,p1,p2,p3⟩:=arL l m n (by simpa using h1) (by simpa using h2);exact⟨(x,y,z)::ps,by simp[p1],by simp[p2],by simp[p3]⟩
 |[],_::_,_,h,_=>by simp at h
 |_::_,[],_,h,_=>by simp at h
 |[],[],_::_,_,h=>by simp at h
 |_::_,_::_,[],_,h=>by simp at h
theorem abW {E:Env}(hE:ka P E.ty){o:Oper}(ho:o.op=.build T parts)(h:py C st a w){K:AS->az R}(hk:Eu E o T parts.toList st K=some r):nG P C o a w K r:=by
 obtain⟨g,hg⟩:=h;unfold Eu at hk;split at hk;rename_i ct kF hT;split at hk;rename_i vs cp vd;split at hk;rename_i cs hbc;obtain⟨g',pw,hlen,Bs⟩:=hg.fM (parts.toList.map (·.2));rw[vd]at pw hlen;simp only[bz]at pw hlen;have px:=hE T _ hT;obtain⟨inf,z,Fa,uU,_,hz,hzc⟩:=px.elem.info;obtain⟨fs,hu,KN⟩:=px.agg rfl;have aqg:=px.count rfl fs hu;have anK:(fs.mapM λf=>do pure (f.offset,<-sizeOf f.type):Sem (Array (Nat×Nat))).run P w=.ok (fs.map λf=>(f.offset,P.cellsOf f.type)) w:=by refine Gr _ _ w fs (λf hf=>?_);obtain⟨i,hi,rfl⟩:=Array.mem_iff_getElem.1 hf;obtain⟨ayH,asz⟩:=aqg i fs[i] (Array.getElem?_eq_getElem hi);simp[sizeOf,typeInfo,asz,Program.cellsOf]
 have Ha:∀(i fo n:Nat),kF[i]?=some (fo,n)->(λ(i:Nat)=>(fs.map λf=>(f.offset,P.cellsOf f.type))[i]?) i=some (fo,n):=by intro i fo n hi;obtain⟨fd,hfd,h1,_,ayH,h2,h3⟩:=KN i fo n hi;simp only[Array.getElem?_map,hfd,dD,h1,Program.cellsOf,h2,h3,fY]
 have hzero:ca (dq C g' cp w) z.cells.toList (cellsOf ct (.own none) ct.zero) []:=by rw[hzc];exact CE (Iq _ _ _)
 have hl1:(parts.toList.map (·.1)).length=((parts.toList.map (·.2)).map a.eval).length:=by simp
 have Cz:((parts.toList.map (·.2)).map a.eval).length=vs.length:=by rw[hlen];simp
 obtain⟨ps,p1,p2,p3⟩:=arL (parts.toList.map (·.1)) ((parts.toList.map (·.2)).map a.eval) vs hl1 Cz;have aya:yP kF (cellsOf ct (.own none) ct.zero) (ps.map λx=>(x.1,x.2.2.cells))=some cs:=by
  rw[<-hbc];congr 1;have:(ps.map λx=>(x.1,x.2.2.cells))=(ps.map λx=>(x.1,x.2.2)).map (λy=>(y.1,y.2.cells)):=by simp
  rw[this,p2,List.zip_map_right];simp
 obtain⟨jv,ld,akO,fO,Fb,hl'⟩:=Qa pw (place:=λ(i:Nat)=>(fs.map λf=>(f.offset,P.cellsOf f.type))[i]?) Ha ps 0 z.cells _ [] cs
  (λj i v av hj=>by
   have h1:(ps.map λx=>(x.2.1,x.2.2))[j]?=some (v,av):=by simp[hj]
   rw[p3]at h1;simpa using h1) hzero (by simp) (by simp) aya
 have adl:(parts.map λ(i,x)=>(i,a.eval x)).toList=ps.map λx=>(x.1,x.2.1):=by rw[p1];apply dj;intro j;simp[List.zip_eq_zipWith]
 have fg:(execOp a.eval o).run P w=.ok (.value (.agg jv)) w:=by simp only[execOp,ho,Instr.build,zeroValue,typeInfo,underlying,Sem.run_bind,run_program,Fa,hz,hu,Result.andThen_ok,Sem.run_pure,anK,adl,akO]
 refine⟨.agg jv,w,_,.inl fg,?_,hk⟩;exact pw.RV o.dst rfl rfl rfl rfl (λt ht=>⟨ht,rfl⟩) (Fr.refl _ _) (λ_ _ _ _=>rfl) (λ_ _ _ ho hu=>⟨ho,hu⟩) ⟨jv.toList,by simp[Cut],fO⟩ Fb (λb hb=>by obtain⟨j,hj⟩:=hl' b hb;exact⟨(pw.gN b _ hj).1,.inl (by rw[hj];rfl)⟩);cases hk;cases hk
theorem aai {g:Gh}(h:eE C g st a w hs){e:CT}:
 ∀(parts:aw (Nat×Value×AV))(k:Nat)(arr:Array Value)(xs:aw e.D)(fps:aw fA)(ys:aw e.D),(∀j i v av,parts[j]?=some (i,v,av)->hs[k+j]?=some (v,av))->
  (∀j i v av,parts[j]?=some (i,v,av)->i=k+j)->xs.length=k->arr.size=(k+parts.length)*e.size->
  lq g.hw w e (arr.toList.take (k*e.size)) xs fps->fps.flatten.Nodup->(∀b∈fps.flatten,∃j,j<k/\g.fj b=some (.hand j))->
  Fk e (parts.map λx=>x.2.2.cells)=some ys->
  ∃jv ac2,Instr.fill (λi=>some (i*e.size,e.size)) arr (parts.map λx=>(x.1,x.2.1))=some jv/\jv.size=arr.size/\lq g.hw w e jv.toList (xs++ys) ac2/\ac2.flatten.Nodup/\∀b∈ac2.flatten,∃j,g.fj b=some (.hand j)
 |[],k,arr,xs,fps,ys,_,_,hk,uU,IH,hn,hl,hb=>by simp[Fk]at hb;subst hb;have:arr.toList.take (k*e.size)=arr.toList:=cx (by simp at uU⊢;omega);rw[this]at IH;exact⟨arr,fps,rfl,rfl,by simpa using IH,hn,λb hb=>let ⟨j,_,hj⟩:=hl b hb;⟨j,hj⟩⟩
 |(i,v,av)::parts,k,arr,xs,fps,ys,hp,hi,hk,uU,IH,hn,hl,hb=>by
  simp only[db,Fk]at hb;split at hb;rename_i y hof;simp only[aY]at hb;obtain⟨zs,hzs,hyz⟩:=hb;simp at hyz;subst hyz;have WL:i=k:=by simpa using hi 0 i v av rfl
  subst WL;obtain⟨fh,UE,SR,Zs⟩:=h.hands i v av (by simpa using hp 0 i v av rfl);cases av with
  |yC ts=>exfalso;revert hof;simp only[AV.cells];intro hof;have:=AU (c:=dq C g st w) (vs:=[undef]) (cs:=[.bot]) (fp:=[]) ⟨[],[],rfl,rfl,rfl⟩ hof;obtain⟨f1,f2,_,iG,_⟩:=this;have h1:=fR.nS iG undef (by cases hz:e.size with|zero=>have:=e.size_pos;omega|succ n=>simp);cases h1
  |val gg vs=>
   simp only[AV.cells]at hof;obtain⟨us,fU,hrh⟩:=UE;obtain⟨f1,f2,ayh,iG,wW⟩:=AU hrh hof;have Zn:us.drop e.size=[]/\f2=[]:=by cases hd:us.drop e.size with|nil=>rw[hd]at wW;exact⟨rfl,wW⟩|cons p q=>rw[hd]at wW;exact wW.elim
   have hul:us.length<=e.size:=by have:=Zn.1;rw[List.drop_eq_nil_iff]at this;exact this
   rw[cx hul]at iG;have aqF:us.length=e.size:=fR.length iG;have h1:=fR.nS iG;have EA:=ML fU h1;have ag9:arr.size=i*e.size+(parts.length+1)*e.size:=by rw[uU,bg,dc]
   have hpe:e.size<=(parts.length+1)*e.size:=by rw[dc,fJ];omega
   have ik:i*e.size+us.length<=arr.size:=by omega
   have Tb:fh=f1:=by rw[ayh,Zn.2,bR]
   subst Tb;have vd:(fw arr (i*e.size) us).toList.take ((i+1)*e.size)=arr.toList.take (i*e.size)++us:=by
    rw[xR us arr _ ik];have hl1:(arr.toList.take (i*e.size)++us).length=(i+1)*e.size:=by rw[ai,aP,dc,fJ,aqF];simp;omega
    rw[List.take_append_of_le_length (by omega),cx (by omega)]
   have adk:lq g.hw w e us [y] [fh]:=by refine⟨by simp[aqF],rfl,λj z f hz hf=>?_⟩;cases j with|zero=>simp at hz hf;subst hz;subst hf;rw[Nat.zero_mul,eG,cx (by omega)];exact iG|succ j=>simp at hz
   have aye:lq g.hw w e ((fw arr (i*e.size) us).toList.take ((i+1)*e.size)) (xs++[y]) (fps++[fh]):=by rw[vd];exact IH.append adk
   have G9:∀b∈fh,b∉fps.flatten:=by intro b iz hm;obtain⟨j,hj,hlj⟩:=hl b hm;rw[Zs b iz]at hlj;simp at hlj;omega
   obtain⟨jv,ac2,hf,yD,aqh,Fc,Cz⟩:=aai h parts (i+1) (fw arr (i*e.size) us) (xs++[y]) (fps++[fh]) zs (λj i' v' S2 hj=>by have:=hp (j+1) i' v' S2 (by simpa using hj);rwa[show i+(j+1)=i+1+j by omega]at this) (λj i' v' S2 hj=>by have:=hi (j+1) i' v' S2 (by simpa using hj);omega) (by simp[hk]) (by rw[jb,uU,bg];congr 1;omega) aye (by simp only[eP,List.flatten_cons,List.flatten_nil,bR];refine aQ.2 ⟨hn,SR,?_⟩;rintro b iz c Cy rfl;exact G9 b Cy iz) (λb iz=>by simp only[eP,List.flatten_cons,List.flatten_nil,bR,aA]at iz;rcases iz with iz|iz;obtain⟨j,hj,hlj⟩:=hl b iz;exact⟨j,by omega,hlj⟩;exact⟨i,by omega,Zs b iz⟩) hzs;refine⟨jv,ac2,?_,by rw[yD,jb],by simpa using aqh,Fc,Cz⟩;rw[db,Ud (by rw[aqF]) EA ik];exact hf
  cases hb
theorem Lz:∀{n:Nat}{l:aw (Nat×Operand)},Ly n l=true->∀j i x,l[j]?=some (i,x)->i=n+j
 |_,[],_,j,i,x,h=>by simp at h
 |n,(m,y)::l,h,0,i,x,hj=>by simp only[Ly,af,ba]at h;simp at hj;rw[<-hj.1];exact h.1
 |n,(m,y)::l,h,j+1,i,x,hj=>by simp only[Ly,af,ba]at h;have:=Lz h.2 j i x (by simpa using hj);omega
theorem O2 {E:Env}(hE:ka P E.ty){o:Oper}{len:Nat}(ho:o.op=.buildSlice T len parts)(h:py C st a w){K:AS->az R}(hk:mG E o T len parts.toList st K=some r):nG P C o a w K r:=by
 obtain⟨g,hg⟩:=h;unfold mG at hk;split at hk;rename_i e hT;split at hk;rename_i hc;obtain⟨Ha,Tf,hlen⟩:=hc;split at hk;rename_i vs cp vd;split at hk;rename_i xs aym;obtain⟨g',pw,hvl,Bs⟩:=hg.fM (parts.toList.map (·.2));rw[vd]at pw hvl;simp only[bz]at pw hvl;obtain⟨te,hu,⟨inf,z,Fa,uU,hby,hz,hzc⟩,hsm⟩:=H4 hE hT;have hl1:(parts.toList.map (·.1)).length=((parts.toList.map (·.2)).map a.eval).length:=by simp
 have Cz:((parts.toList.map (·.2)).map a.eval).length=vs.length:=by rw[hvl];simp
 obtain⟨ps,p1,p2,p3⟩:=arL (parts.toList.map (·.1)) ((parts.toList.map (·.2)).map a.eval) vs hl1 Cz;have ayy:ps.length=len:=by have:=congrArg List.length p1;simp at this;rw[this,<-Ha];simp
 have asF:Fk e (ps.map λx=>x.2.2.cells)=some xs:=by
  rw[<-aym];congr 1;have:(ps.map λx=>x.2.2.cells)=(ps.map λx=>(x.1,x.2.2)).map (λy=>y.2.cells):=by simp
  rw[this,p2];have h2:((parts.toList.map (·.1)).zip vs).map (λy=>y.2.cells)=(((parts.toList.map (·.1)).zip vs).map Prod.snd).map AV.cells:=by simp
  rw[h2,List.map_snd_zip (by rw[<-Cz,<-hl1];exact bt _)]
 have adl:(parts.map λ(i,x)=>(i,a.eval x)).toList=ps.map λx=>(x.1,x.2.1):=by rw[p1];apply dj;intro j;simp[List.zip_eq_zipWith]
 have hzs:z.cells.size=e.size:=by rw[<-qN e,<-hzc];simp
 let asi:Array Value:=madeCells (if len*e.size=0 then #[] else z.cells) (len*e.size);have ha0:asi.size=len*e.size:=size_madeCells _ _
 obtain⟨jv,ac2,akO,yD,IH,Fb,hl'⟩:=aai pw (e:=e) ps 0 asi [] [] xs
  (λj i v av hj=>by
   have h1:(ps.map λx=>(x.2.1,x.2.2))[j]?=some (v,av):=by simp[hj]
   rw[p3]at h1;simpa using h1)
  (λj i v av hj=>by
   have h1:(ps.map λx=>(x.1,x.2.1))[j]?=some (i,v):=by simp[hj]
   rw[p1]at h1;rw[List.getElem?_zip_eq_some]at h1;have h2:=h1.1;rw[List.getElem?_map]at h2;cases hq:parts.toList[j]? with|none=>rw[hq]at h2;cases h2|some q=>rw[hq]at h2;simp at h2;have:=Lz Tf j q.1 q.2 hq;omega) rfl (by rw[ha0,ayy];simp) (by simpa using lq.nil _ _ _) (by simp) (by simp) asF
 have hxl:xs.length=len:=by have h1:=IH.1;rw[Array.length_toList,yD,ha0,bz]at h1;exact(Nat.eq_of_mul_eq_mul_right e.size_pos h1).symm
 have ayB:¬(16777216<len*e.size):=by have:len*e.size<=1000*4096:=Nat.mul_le_mul hlen hsm;omega
 have fg:(execOp a.eval o).run P w=.ok (.value (.slice (some ⟨w.heap.size,0,none⟩) len len)) (w.alloc (.cells jv te)):=by
  have WI:Instr.fill (λi=>some (i*e.size,e.size)) ((Array.range (len*e.size)).map ((if len*e.size=0 then(#[]:Array Value) else z.cells)[·%(if len*e.size=0 then(#[]:Array Value) else z.cells).size]!)) (parts.map λ(i,x)=>(i,a.eval x)).toList=some jv:=by rw[adl];exact akO
  by_cases h0:len*e.size=0;rw[aI h0]at WI;simp only[execOp,ho,Instr.buildSlice,underlying,Sem.run_bind,run_program,hu,Result.andThen_ok,Sem.run_pure,sizeOf,typeInfo,Fa,uU];rw[nI,aI h0];simp only[Sem.run_pure,Result.andThen_ok,WI,newRow,Sem.run_bind,run_newObj];rfl;rw[aK h0]at WI;simp only[execOp,ho,Instr.buildSlice,underlying,Sem.run_bind,run_program,hu,Result.andThen_ok,Sem.run_pure,sizeOf,typeInfo,Fa,uU];rw[nI,aK h0];simp only[zeroValue,typeInfo,Sem.run_bind,run_program,Fa,hz,Sem.run_pure,Result.andThen_ok,WI,newRow,run_newObj];rfl
 refine⟨_,_,_,.inl fg,?_,hk⟩;have aqh:lq g'.hw w e (jv.toList.take (xs.length*e.size)) xs ac2:=by rw[cx (by rw[Array.length_toList,yD,ha0,hxl];exact bt _)];simpa using IH
 have:=pw.RI o.dst (T:=te) (fr:=(0,0)) (cap:=len) (.inl rfl) (by intro j _;simp) (by rw[yD,ha0]) (by omega) aqh Fb (λb hb=>by obtain⟨j,hj⟩:=hl' b hb;rw[hj];rfl);rw[hxl]at this;exact this;cases hk;cases hk;cases hk
end Go.Dn
