import Derived.Test.YtainmjjkipbciaaGreatDnOps5
/- Part 6: structs and slices that are built; append. -/
namespace Go.Dn
open Go.RowKit
variable {P:Program} {C:Ctx} {st:AS} {a:Act} {w:World} {R:Type} {r:R}
variable {parts:Array (Nat×Operand)} {place:Nat->ax (Nat×Nat)} {T:TypeId} {hs:aw (Value×AV)}
theorem dP.eM:∀(xs:aw Operand){g:Gh}{st:AS}{hs:aw (Value×AV)},dP C g st a w hs->
 ∃g',dP C g' (eM st xs).2 a w (hs++(xs.map a.eval).zip (eM st xs).1)/\(eM st xs).1.length=xs.length/\(eM st xs).2.ep=st.ep
 |[],g,st,hs,h=>⟨g,by simpa[Dn.eM]using h,rfl,rfl⟩
 |x::xs,g,st,hs,h=>by obtain⟨g1,h1⟩:=h.take x;obtain⟨g2,h2,hl,wB⟩:=dP.eM xs h1;refine⟨g2,?_,by simp[Dn.eM,hl],by simp only[Dn.eM];rw[wB,Qw]⟩;simpa[Dn.eM]using h2
theorem Tl {α β:Type}(f:α->Sem β)(gf:α->β)(w:World):∀(l:aw α),(∀x∈l,(f x).run P w=.ok (gf x) w)->(l.mapM f).run P w=.ok (l.map gf) w
 |[],_=>by simp
 |x::l,h=>by rw[List.mapM_cons];simp only[Sem.run_bind,h x (by simp),Result.andThen_ok,Tl f gf w l (λy hy=>h y (eO _ hy)),Sem.run_pure,cR]
theorem Bb {α β:Type}(f:α->Sem β)(gf:α->β)(w:World)(l:Array α)(h:∀x∈l,(f x).run P w=.ok (gf x) w):(l.mapM f).run P w=.ok (l.map gf) w:=by rw[Array.mapM_eq_mapM_toList,Sem.run_map,Tl f gf w l.toList (λx hx=>h x (by simpa using hx))];simp only[Result.andThen_ok,Result.ok.injEq,iv];apply eQ;simp
theorem LO (us:ir):∀(arr:Array Value)(off j:Nat),((us.zipIdx j).foldl (λcs (x:Value×Nat)=>cs.setIfInBounds (off+x.2) x.1) arr)=ew arr (off+j) us:=by induction us with|nil=>intro arr off j;rfl|cons u us ih=>intro arr off j;rw[List.zipIdx_cons,List.foldl_cons,ih];rfl
theorem MW {cells:Array Value}{i:Nat}{v:Value}{rest:aw (Nat×Value)}{off:Nat}{us:ir}(hp:place i=some (off,us.length))(hv:v.cells.toList=us)(gx:off+us.length<=cells.size):Instr.fill place cells ((i,v)::rest)=Instr.fill place (ew cells off us) rest:=by
 have sV:v.cells.size=us.length:=by rw[<-hv];simp
 rw[Instr.fill,hp];simp only[sV];rw[aH (by simp;omega)];congr 1;have:v.cells=us.toArray:=by apply eQ;simpa using hv
 rw[this];have h2:=LO us cells off 0;rw[dT]at h2;rw[<-h2];rw[<-Array.foldl_toList];simp
theorem aay {cs vs:aw AC}{off n:Nat}(h:vs.length=n):dZ cs off vs=cs.take off++vs++cs.drop (off+n):=by simp only[dZ];rw[h]
theorem Ji {g:Gh}(h:dP C g st a w hs){jv:aw (Nat×Nat)}(C8:∀i fo n,jv[i]?=some (fo,n)->place i=some (fo,n)):
 ∀(parts:aw (Nat×Value×AV))(k:Nat)(arr:Array Value)(zs:aw AC)(fp:fg)(cs:aw AC),(∀j i v av,parts[j]?=some (i,v,av)->hs[k+j]?=some (v,av))->
  bE (cG C g st w) arr.toList zs fp->fp.Nodup->(∀b∈fp,∃j,j<k/\g.ef b=some (.hand j))->
  uC jv zs (parts.map λx=>(x.1,x.2.2.cells))=some cs->
  ∃iJ jI,Instr.fill place arr (parts.map λx=>(x.1,x.2.1))=some iJ/\bE (cG C g st w) iJ.toList cs jI/\jI.Nodup/\∀b∈jI,∃j,g.ef b=some (.hand j)
 |[],k,arr,zs,fp,cs,_,hr,hn,hl,hb=>by simp[uC]at hb;subst hb;exact⟨arr,fp,rfl,hr,hn,λb hb=>let ⟨j,_,hj⟩:=hl b hb;⟨j,hj⟩⟩
 |(i,v,av)::parts,k,arr,zs,fp,cs,hp,hr,hn,hl,hb=>by
  simp only[cR,uC,dI]at hb;split at hb;rename_i off n L8;split at hb;rename_i hc;obtain⟨fh,M8,LS,R2⟩:=h.hands k v av (by simpa using hp 0 i v av rfl);cases av with
  |uw ts=>simp[AV.cells,AC.F1]at hc
  |val gg vs=>
   simp only[AV.cells]at hc hb;obtain⟨us,fE,T5⟩:=M8;have hul:=T5.length;have h1:=T5.mh hc.2.2;have zn:=Gx fE h1;have hal:=hr.length;have aug:arr.size=zs.length:=by simpa using hal
   have gx:off+us.length<=arr.size:=by omega
   have ah3:place i=some (off,us.length):=by rw[C8 i off n L8];congr 2;omega
   obtain⟨f1,f2,f3,rfl,r1,r2,r3⟩:=hr.mid off us.length;have eK:bE (cG C g st w) (ew arr off us).toList (dZ zs off vs) (f1++fh++f3):=by rw[tQ us arr off gx,aay hul.symm];exact(r1.append T5).append r3
   have BI:∀b∈fh,b∉f1++f2++f3:=by intro b gM hm;obtain⟨j,hj,hlj⟩:=hl b hm;rw[R2 b gM]at hlj;simp at hlj;omega
   have BB:=hn;rw[aP]at BB;have n1:=aI.1 BB;have n2:=aI.1 n1.2.1;have ahZ:(f1++fh++f3).Nodup:=by rw[aP];refine aI.2 ⟨n1.1,aI.2 ⟨LS,n2.2.1,?_⟩,?_⟩;rintro b gM c wQ rfl;exact BI b gM (by simp[wQ]);rintro b gM c wQ rfl;rcases ay.1 wQ with wQ|wQ;exact BI b wQ (by simp[gM]);exact n1.2.2 b gM b (bj _ wQ) rfl
   obtain⟨iJ,jI,hf,uA,arP,hl'⟩:=Ji h C8 parts (k+1) (ew arr off us) (dZ zs off vs) (f1++fh++f3) cs (λj i' v' LW hj=>by have:=hp (j+1) i' v' LW (by simpa using hj);rwa[show k+(j+1)=k+1+j by omega]at this) eK ahZ (λb gM=>by simp only[ay]at gM;rcases gM with(gM|gM)|gM;obtain⟨j,hj,hlj⟩:=hl b (by simp[gM]);exact⟨j,by omega,hlj⟩;exact⟨k,by omega,R2 b gM⟩;obtain⟨j,hj,hlj⟩:=hl b (by simp[gM]);exact⟨j,by omega,hlj⟩) hb;refine⟨iJ,jI,?_,uA,arP,hl'⟩;rw[cR,MW ah3 zn gx];exact hf
  cases hb;cases hb
theorem aj1 {α β γ:Type}:∀(l:aw α)(m:aw β)(n:aw γ),l.length=m.length->m.length=n.length->
 ∃ps:aw (α×β×γ),ps.map (λx=>(x.1,x.2.1))=l.zip m/\ps.map (λx=>(x.1,x.2.2))=l.zip n/\ps.map (λx=>(x.2.1,x.2.2))=m.zip n
 |[],[],[],_,_=>⟨[],rfl,rfl,rfl⟩
 |x::l,y::m,z::n,h1,h2=>by obtain⟨ps,p1,p2,p3⟩:=aj1 l m n (by simpa using h1) (by simpa using h2);exact⟨(x,y,z)::ps,by simp[p1],by simp[p2],by simp[p3]⟩
 |[],_::_,_,h,_=>by simp at h
 |_::_,[],_,h,_=>by simp at h
 |[],[],_::_,_,h=>by simp at h
 |_::_,_::_,[],_,h=>by simp at h
theorem Un {E:Env}(hE:ja P E.ty){o:Oper}(ho:o.op=.build T parts)(h:mZ C st a w){K:AS->ax R}(hk:zh E o T parts.toList st K=some r):lS P C o a w K r:=by
 obtain⟨g,hg⟩:=h;unfold zh at hk;split at hk;rename_i ct jv hT;split at hk;rename_i vs bK qT;split at hk;rename_i cs hbc;obtain⟨g',mX,hlen,wB⟩:=hg.eM (parts.toList.map (·.2));rw[qT]at mX hlen;simp only[cu]at mX hlen;have mY:=hE T _ hT;obtain⟨inf,z,zO,sV,_,hz,hzc⟩:=mY.elem.info;obtain⟨fs,hu,EL⟩:=mY.agg rfl;have ahK:=mY.count rfl fs hu;have aeS:(fs.mapM λf=>do pure (f.offset,<-sizeOf f.type):Sem (Array (Nat×Nat))).run P w=.ok (fs.map λf=>(f.offset,P.cellsOf f.type)) w:=by refine Bb _ _ w fs (λf hf=>?_);obtain⟨i,hi,rfl⟩:=Array.mem_iff_getElem.1 hf;obtain⟨ar5,amG⟩:=ahK i fs[i] (Array.getElem?_eq_getElem hi);simp[sizeOf,typeInfo,amG,Program.cellsOf]
 have C8:∀(i fo n:Nat),jv[i]?=some (fo,n)->(λ(i:Nat)=>(fs.map λf=>(f.offset,P.cellsOf f.type))[i]?) i=some (fo,n):=by intro i fo n hi;obtain⟨fd,hfd,h1,_,ar5,h2,h3⟩:=EL i fo n hi;simp only[Array.getElem?_map,hfd,dc,h1,Program.cellsOf,h2,h3,fj]
 have hzero:bE (cG C g' bK w) z.cells.toList (cellsOf ct (.own none) ct.zero) []:=by rw[hzc];exact xJ (CR _ _ _)
 have hl1:(parts.toList.map (·.1)).length=((parts.toList.map (·.2)).map a.eval).length:=by simp
 have xE:((parts.toList.map (·.2)).map a.eval).length=vs.length:=by rw[hlen];simp
 obtain⟨ps,p1,p2,p3⟩:=aj1 (parts.toList.map (·.1)) ((parts.toList.map (·.2)).map a.eval) vs hl1 xE;have arA:uC jv (cellsOf ct (.own none) ct.zero) (ps.map λx=>(x.1,x.2.2.cells))=some cs:=by
  rw[<-hbc];congr 1;have:(ps.map λx=>(x.1,x.2.2.cells))=(ps.map λx=>(x.1,x.2.2)).map (λy=>(y.1,y.2.cells)):=by simp
  rw[this,p2,List.zip_map_right];simp
 obtain⟨iJ,jI,abx,eK,BB,hl'⟩:=Ji mX (place:=λ(i:Nat)=>(fs.map λf=>(f.offset,P.cellsOf f.type))[i]?) C8 ps 0 z.cells _ [] cs
  (λj i v av hj=>by
   have h1:(ps.map λx=>(x.2.1,x.2.2))[j]?=some (v,av):=by simp[hj]
   rw[p3]at h1;simpa using h1) hzero (by simp) (by simp) arA
 have UW:(parts.map λ(i,x)=>(i,a.eval x)).toList=ps.map λx=>(x.1,x.2.1):=by rw[p1];apply cz;intro j;simp[List.zip_eq_zipWith]
 have ec:(execOp a.eval o).run P w=.ok (.value (.agg iJ)) w:=by simp only[execOp,ho,Instr.build,zeroValue,typeInfo,underlying,Sem.run_bind,run_program,zO,hz,hu,Result.andThen_ok,Sem.run_pure,aeS,UW,abx]
 refine⟨.agg iJ,w,_,.inl ec,?_,hk⟩;exact mX.K7 o.dst rfl rfl rfl rfl (λt ht=>⟨ht,rfl⟩) (Fr.refl _ _) (λ_ _ _ _=>rfl) (λ_ _ _ ho hu=>⟨ho,hu⟩) ⟨iJ.toList,by simp[Cut],eK⟩ BB (λb hb=>by obtain⟨j,hj⟩:=hl' b hb;exact⟨(mX.fS b _ hj).1,.inl (by rw[hj];rfl)⟩);cases hk;cases hk
theorem SH {g:Gh}(h:dP C g st a w hs){e:CT}:
 ∀(parts:aw (Nat×Value×AV))(k:Nat)(arr:Array Value)(xs:aw e.D)(fps:aw fg)(ys:aw e.D),(∀j i v av,parts[j]?=some (i,v,av)->hs[k+j]?=some (v,av))->
  (∀j i v av,parts[j]?=some (i,v,av)->i=k+j)->xs.length=k->arr.size=(k+parts.length)*e.size->
  jS g.hw w e (arr.toList.take (k*e.size)) xs fps->fps.flatten.Nodup->(∀b∈fps.flatten,∃j,j<k/\g.ef b=some (.hand j))->
  zW e (parts.map λx=>x.2.2.cells)=some ys->
  ∃iJ UJ,Instr.fill (λi=>some (i*e.size,e.size)) arr (parts.map λx=>(x.1,x.2.1))=some iJ/\iJ.size=arr.size/\jS g.hw w e iJ.toList (xs++ys) UJ/\UJ.flatten.Nodup/\∀b∈UJ.flatten,∃j,g.ef b=some (.hand j)
 |[],k,arr,xs,fps,ys,_,_,hk,sV,Cd,hn,hl,hb=>by simp[zW]at hb;subst hb;have:arr.toList.take (k*e.size)=arr.toList:=bN (by simp at sV⊢;omega);rw[this]at Cd;exact⟨arr,fps,rfl,rfl,by simpa using Cd,hn,λb hb=>let ⟨j,_,hj⟩:=hl b hb;⟨j,hj⟩⟩
 |(i,v,av)::parts,k,arr,xs,fps,ys,hp,hi,hk,sV,Cd,hn,hl,hb=>by
  simp only[cR,zW]at hb;split at hb;rename_i y hof;simp only[aM]at hb;obtain⟨zs,hzs,hyz⟩:=hb;simp at hyz;subst hyz;have hik:i=k:=by simpa using hi 0 i v av rfl
  subst hik;obtain⟨fh,M8,LS,R2⟩:=h.hands i v av (by simpa using hp 0 i v av rfl);cases av with
  |uw ts=>exfalso;revert hof;simp only[AV.cells];intro hof;have:=wg (c:=cG C g st w) (vs:=[undef]) (cs:=[.bot]) (fp:=[]) ⟨[],[],rfl,rfl,rfl⟩ hof;obtain⟨f1,f2,_,gE,_⟩:=this;have h1:=eZ.mh gE undef (by cases hz:e.size with|zero=>have:=e.size_pos;omega|succ n=>simp);cases h1
  |val gg vs=>
   simp only[AV.cells]at hof;obtain⟨us,fE,T5⟩:=M8;obtain⟨f1,f2,arH,gE,sI⟩:=wg T5 hof;have RV:us.drop e.size=[]/\f2=[]:=by cases hd:us.drop e.size with|nil=>rw[hd]at sI;exact⟨rfl,sI⟩|cons p q=>rw[hd]at sI;exact sI.elim
   have hul:us.length<=e.size:=by have:=RV.1;rw[List.drop_eq_nil_iff]at this;exact this
   rw[bN hul]at gE;have ah9:us.length=e.size:=eZ.length gE;have h1:=eZ.mh gE;have zn:=Gx fE h1;have YF:arr.size=i*e.size+(parts.length+1)*e.size:=by rw[sV,bB,cA]
   have hpe:e.size<=(parts.length+1)*e.size:=by rw[cA,eY];omega
   have gx:i*e.size+us.length<=arr.size:=by omega
   have L3:fh=f1:=by rw[arH,RV.2,bR]
   subst L3;have qT:(ew arr (i*e.size) us).toList.take ((i+1)*e.size)=arr.toList.take (i*e.size)++us:=by
    rw[tQ us arr _ gx];have hl1:(arr.toList.take (i*e.size)++us).length=(i+1)*e.size:=by rw[ai,aZ,cA,eY,ah9];simp;omega
    rw[List.take_append_of_le_length (by omega),bN (by omega)]
   have UU:jS g.hw w e us [y] [fh]:=by refine⟨by simp[ah9],rfl,λj z f hz hf=>?_⟩;cases j with|zero=>simp at hz hf;subst hz;subst hf;rw[Nat.zero_mul,eV,bN (by omega)];exact gE|succ j=>simp at hz
   have arE:jS g.hw w e ((ew arr (i*e.size) us).toList.take ((i+1)*e.size)) (xs++[y]) (fps++[fh]):=by rw[qT];exact Cd.append UU
   have BI:∀b∈fh,b∉fps.flatten:=by intro b gM hm;obtain⟨j,hj,hlj⟩:=hl b hm;rw[R2 b gM]at hlj;simp at hlj;omega
   obtain⟨iJ,UJ,hf,wC,ahL,BL,xE⟩:=SH h parts (i+1) (ew arr (i*e.size) us) (xs++[y]) (fps++[fh]) zs (λj i' v' LW hj=>by have:=hp (j+1) i' v' LW (by simpa using hj);rwa[show i+(j+1)=i+1+j by omega]at this) (λj i' v' LW hj=>by have:=hi (j+1) i' v' LW (by simpa using hj);omega) (by simp[hk]) (by rw[ik,sV,bB];congr 1;omega) arE (by simp only[dV,List.flatten_cons,List.flatten_nil,bR];refine aI.2 ⟨hn,LS,?_⟩;rintro b gM c wQ rfl;exact BI b wQ gM) (λb gM=>by simp only[dV,List.flatten_cons,List.flatten_nil,bR,ay]at gM;rcases gM with gM|gM;obtain⟨j,hj,hlj⟩:=hl b gM;exact⟨j,by omega,hlj⟩;exact⟨i,by omega,R2 b gM⟩) hzs;refine⟨iJ,UJ,?_,by rw[wC,ik],by simpa using ahL,BL,xE⟩;rw[cR,MW (by rw[ah9]) zn gx];exact hf
  cases hb
theorem FA:∀{n:Nat}{l:aw (Nat×Operand)},Fz n l=true->∀j i x,l[j]?=some (i,x)->i=n+j
 |_,[],_,j,i,x,h=>by simp at h
 |n,(m,y)::l,h,0,i,x,hj=>by simp only[Fz,ae,aV]at h;simp at hj;rw[<-hj.1];exact h.1
 |n,(m,y)::l,h,j+1,i,x,hj=>by simp only[Fz,ae,aV]at h;have:=FA h.2 j i x (by simpa using hj);omega
theorem Iq {E:Env}(hE:ja P E.ty){o:Oper}{len:Nat}(ho:o.op=.buildSlice T len parts)(h:mZ C st a w){K:AS->ax R}(hk:kV E o T len parts.toList st K=some r):lS P C o a w K r:=by
 obtain⟨g,hg⟩:=h;unfold kV at hk;split at hk;rename_i e hT;split at hk;rename_i hc;obtain⟨C8,L7,hlen⟩:=hc;split at hk;rename_i vs bK qT;split at hk;rename_i xs arM;obtain⟨g',mX,hvl,wB⟩:=hg.eM (parts.toList.map (·.2));rw[qT]at mX hvl;simp only[cu]at mX hvl;obtain⟨te,hu,⟨inf,z,zO,sV,hby,hz,hzc⟩,hsm⟩:=CD hE hT;have hl1:(parts.toList.map (·.1)).length=((parts.toList.map (·.2)).map a.eval).length:=by simp
 have xE:((parts.toList.map (·.2)).map a.eval).length=vs.length:=by rw[hvl];simp
 obtain⟨ps,p1,p2,p3⟩:=aj1 (parts.toList.map (·.1)) ((parts.toList.map (·.2)).map a.eval) vs hl1 xE;have arW:ps.length=len:=by have:=congrArg List.length p1;simp at this;rw[this,<-C8];simp
 have amM:zW e (ps.map λx=>x.2.2.cells)=some xs:=by
  rw[<-arM];congr 1;have:(ps.map λx=>x.2.2.cells)=(ps.map λx=>(x.1,x.2.2)).map (λy=>y.2.cells):=by simp
  rw[this,p2];have h2:((parts.toList.map (·.1)).zip vs).map (λy=>y.2.cells)=(((parts.toList.map (·.1)).zip vs).map Prod.snd).map AV.cells:=by simp
  rw[h2,List.map_snd_zip (by rw[<-xE,<-hl1];exact aU _)]
 have UW:(parts.map λ(i,x)=>(i,a.eval x)).toList=ps.map λx=>(x.1,x.2.1):=by rw[p1];apply cz;intro j;simp[List.zip_eq_zipWith]
 have hzs:z.cells.size=e.size:=by rw[<-oh e,<-hzc];simp
 let ak1:Array Value:=madeCells (if len*e.size=0 then #[] else z.cells) (len*e.size);have ha0:ak1.size=len*e.size:=size_madeCells _ _
 obtain⟨iJ,UJ,abx,wC,Cd,BB,hl'⟩:=SH mX (e:=e) ps 0 ak1 [] [] xs
  (λj i v av hj=>by
   have h1:(ps.map λx=>(x.2.1,x.2.2))[j]?=some (v,av):=by simp[hj]
   rw[p3]at h1;simpa using h1)
  (λj i v av hj=>by
   have h1:(ps.map λx=>(x.1,x.2.1))[j]?=some (i,v):=by simp[hj]
   rw[p1]at h1;rw[List.getElem?_zip_eq_some]at h1;have h2:=h1.1;rw[List.getElem?_map]at h2;cases hq:parts.toList[j]? with|none=>rw[hq]at h2;cases h2|some q=>rw[hq]at h2;simp at h2;have:=FA L7 j q.1 q.2 hq;omega) rfl (by rw[ha0,arW];simp) (by simpa using jS.nil _ _ _) (by simp) (by simp) amM
 have hxl:xs.length=len:=by have h1:=Cd.1;rw[Array.length_toList,wC,ha0,cu]at h1;exact(Nat.eq_of_mul_eq_mul_right e.size_pos h1).symm
 have arZ:¬(16777216<len*e.size):=by have:len*e.size<=1000*4096:=Nat.mul_le_mul hlen hsm;omega
 have ec:(execOp a.eval o).run P w=.ok (.value (.slice (some ⟨w.heap.size,0,none⟩) len len)) (w.alloc (.cells iJ te)):=by
  have Po:Instr.fill (λi=>some (i*e.size,e.size)) ((Array.range (len*e.size)).map ((if len*e.size=0 then(#[]:Array Value) else z.cells)[·%(if len*e.size=0 then(#[]:Array Value) else z.cells).size]!)) (parts.map λ(i,x)=>(i,a.eval x)).toList=some iJ:=by rw[UW];exact abx
  by_cases h0:len*e.size=0;rw[aF h0]at Po;simp only[execOp,ho,Instr.buildSlice,underlying,Sem.run_bind,run_program,hu,Result.andThen_ok,Sem.run_pure,sizeOf,typeInfo,zO,sV];rw[lR,aF h0];simp only[Sem.run_pure,Result.andThen_ok,Po,newRow,Sem.run_bind,run_newObj];rfl;rw[aH h0]at Po;simp only[execOp,ho,Instr.buildSlice,underlying,Sem.run_bind,run_program,hu,Result.andThen_ok,Sem.run_pure,sizeOf,typeInfo,zO,sV];rw[lR,aH h0];simp only[zeroValue,typeInfo,Sem.run_bind,run_program,zO,hz,Sem.run_pure,Result.andThen_ok,Po,newRow,run_newObj];rfl
 refine⟨_,_,_,.inl ec,?_,hk⟩;have ahL:jS g'.hw w e (iJ.toList.take (xs.length*e.size)) xs UJ:=by rw[bN (by rw[Array.length_toList,wC,ha0,hxl];exact aU _)];simpa using Cd
 have:=mX.KV o.dst (T:=te) (fr:=(0,0)) (cap:=len) (.inl rfl) (by intro j _;simp) (by rw[wC,ha0]) (by omega) ahL BB (λb hb=>by obtain⟨j,hj⟩:=hl' b hb;rw[hj];rfl);rw[hxl]at this;exact this;cases hk;cases hk;cases hk
end Go.Dn
