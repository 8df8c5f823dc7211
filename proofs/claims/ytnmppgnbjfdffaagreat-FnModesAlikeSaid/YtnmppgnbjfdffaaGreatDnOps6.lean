import Derived.Test.YtnmppgnbjfdffaaGreatDnOps5
/- Part 6: structs and slices that are built; append. -/
namespace Go.Dn
open Go.RowKit
variable {P:Program} {C:Ctx} {st:AS} {a:Act} {w:World} {R:Type} {r:R}
variable {parts:Array (Nat×Operand)} {place:Nat->aC (Nat×Nat)} {T:TypeId} {hs:ay (Value×AV)}
theorem eK.fL:∀(xs:ay Operand){g:Gh}{st:AS}{hs:ay (Value×AV)},eK C g st a w hs->
 ∃g',eK C g' (fL st xs).2 a w (hs++(xs.map a.eval).zip (fL st xs).1)/\(fL st xs).1.length=xs.length/\(fL st xs).2.ep=st.ep
 |[],g,st,hs,h=>⟨g,by simpa[Dn.fL]using h,rfl,rfl⟩
 |x::xs,g,st,hs,h=>by obtain⟨g1,h1⟩:=h.take x;obtain⟨g2,h2,hl,yi⟩:=eK.fL xs h1;refine⟨g2,?_,by simp[Dn.fL,hl],by simp only[Dn.fL];rw[yi,SF]⟩;simpa[Dn.fL]using h2
theorem Vi {α β:Type}(f:α->Sem β)(gf:α->β)(w:World):∀(l:ay α),(∀x∈l,(f x).run P w=.ok (gf x) w)->(l.mapM f).run P w=.ok (l.map gf) w
 |[],_=>by simp
 |x::l,h=>by rw[List.mapM_cons];simp only[Sem.run_bind,h x (by simp),Result.andThen_ok,Vi f gf w l (λy hy=>h y (dS _ hy)),Sem.run_pure,cZ]
theorem C7 {α β:Type}(f:α->Sem β)(gf:α->β)(w:World)(l:Array α)(h:∀x∈l,(f x).run P w=.ok (gf x) w):(l.mapM f).run P w=.ok (l.map gf) w:=by rw[Array.mapM_eq_mapM_toList,Sem.run_map,Vi f gf w l.toList (λx hx=>h x (by simpa using hx))];simp only[Result.andThen_ok,Result.ok.injEq,jB];apply fN;simp
theorem N8 (us:jz):∀(arr:Array Value)(off j:Nat),((us.zipIdx j).foldl (λcs (x:Value×Nat)=>cs.setIfInBounds (off+x.2) x.1) arr)=fy arr (off+j) us:=by induction us with|nil=>intro arr off j;rfl|cons u us ih=>intro arr off j;rw[List.zipIdx_cons,List.foldl_cons,ih];rfl
theorem Ps {cells:Array Value}{i:Nat}{v:Value}{rest:ay (Nat×Value)}{off:Nat}{us:jz}(hp:place i=some (off,us.length))(hv:v.cells.toList=us)(iB:off+us.length<=cells.size):Instr.fill place cells ((i,v)::rest)=Instr.fill place (fy cells off us) rest:=by
 have uL:v.cells.size=us.length:=by rw[<-hv];simp
 rw[Instr.fill,hp];simp only[uL];rw[aH (by simp;omega)];congr 1;have:v.cells=us.toArray:=by apply fN;simpa using hv
 rw[this];have h2:=N8 us cells off 0;rw[dX]at h2;rw[<-h2];rw[<-Array.foldl_toList];simp
theorem acF {cs vs:ay AC}{off n:Nat}(h:vs.length=n):eX cs off vs=cs.take off++vs++cs.drop (off+n):=by simp only[eX];rw[h]
theorem LM {g:Gh}(h:eK C g st a w hs){kE:ay (Nat×Nat)}(DE:∀i fo n,kE[i]?=some (fo,n)->place i=some (fo,n)):
 ∀(parts:ay (Nat×Value×AV))(k:Nat)(arr:Array Value)(zs:ay AC)(fp:fR)(cs:ay AC),(∀j i v av,parts[j]?=some (i,v,av)->hs[k+j]?=some (v,av))->
  bR (dk C g st w) arr.toList zs fp->fp.Nodup->(∀b∈fp,∃j,j<k/\g.fe b=some (.hand j))->
  wE kE zs (parts.map λx=>(x.1,x.2.2.cells))=some cs->
  ∃jJ kS,Instr.fill place arr (parts.map λx=>(x.1,x.2.1))=some jJ/\bR (dk C g st w) jJ.toList cs kS/\kS.Nodup/\∀b∈kS,∃j,g.fe b=some (.hand j)
 |[],k,arr,zs,fp,cs,_,hr,hn,hl,hb=>by simp[wE]at hb;subst hb;exact⟨arr,fp,rfl,hr,hn,λb hb=>let ⟨j,_,hj⟩:=hl b hb;⟨j,hj⟩⟩
 |(i,v,av)::parts,k,arr,zs,fp,cs,hp,hr,hn,hl,hb=>by
  simp only[cZ,wE,eH]at hb;split at hb;rename_i off n Ov;split at hb;rename_i hc;obtain⟨fh,PF,Ob,TX⟩:=h.hands k v av (by simpa using hp 0 i v av rfl);cases av with
  |wh ts=>simp[AV.cells,AC.Ic]at hc
  |val gg vs=>
   simp only[AV.cells]at hc hb;obtain⟨us,gm,V0⟩:=PF;have hul:=V0.length;have h1:=V0.nC hc.2.2;have BD:=IJ gm h1;have hal:=hr.length;have aqk:arr.size=zs.length:=by simpa using hal
   have iB:off+us.length<=arr.size:=by omega
   have ajt:place i=some (off,us.length):=by rw[DE i off n Ov];congr 2;omega
   obtain⟨f1,f2,f3,rfl,r1,r2,r3⟩:=hr.mid off us.length;have fJ:bR (dk C g st w) (fy arr off us).toList (eX zs off vs) (f1++fh++f3):=by rw[vG us arr off iB,acF hul.symm];exact(r1.append V0).append r3
   have B6:∀b∈fh,b∉f1++f2++f3:=by intro b im hm;obtain⟨j,hj,hlj⟩:=hl b hm;rw[TX b im]at hlj;simp at hlj;omega
   have Cx:=hn;rw[aD]at Cx;have n1:=aM.1 Cx;have n2:=aM.1 n1.2.1;have ajp:(f1++fh++f3).Nodup:=by rw[aD];refine aM.2 ⟨n1.1,aM.2 ⟨Ob,n2.2.1,?_⟩,?_⟩;rintro b im c yd rfl;exact B6 b im (by simp[yd]);rintro b im c yd rfl;rcases ax.1 yd with yd|yd;exact B6 b yd (by simp[im]);exact n1.2.2 b im b (bj _ yd) rfl
   obtain⟨jJ,kS,hf,wB,apA,hl'⟩:=LM h DE parts (k+1) (fy arr off us) (eX zs off vs) (f1++fh++f3) cs (λj i' v' Og hj=>by have:=hp (j+1) i' v' Og (by simpa using hj);rwa[show k+(j+1)=k+1+j by omega]at this) fJ ajp (λb im=>by simp only[ax]at im;rcases im with(im|im)|im;obtain⟨j,hj,hlj⟩:=hl b (by simp[im]);exact⟨j,by omega,hlj⟩;exact⟨k,by omega,TX b im⟩;obtain⟨j,hj,hlj⟩:=hl b (by simp[im]);exact⟨j,by omega,hlj⟩) hb;refine⟨jJ,kS,?_,wB,apA,hl'⟩;rw[cZ,Ps ajt BD iB];exact hf
  cases hb;cases hb
theorem akr {α β γ:Type}:∀(l:ay α)(m:ay β)(n:ay γ),l.length=m.length->m.length=n.length->
 ∃ps:ay (α×β×γ),ps.map (λx=>(x.1,x.2.1))=l.zip m/\ps.map (λx=>(x.1,x.2.2))=l.zip n/\ps.map (λx=>(x.2.1,x.2.2))=m.zip n
 |[],[],[],_,_=>⟨[],rfl,rfl,rfl⟩
 |x::l,y::m,z::n,h1,h2=>by obtain⟨ps,p1,p2,p3⟩:=akr l m n (by simpa using h1) (by simpa using h2);exact⟨(x,y,z)::ps,by simp[p1],by simp[p2],by simp[p3]⟩
 |[],_::_,_,h,_=>by simp at h
 |_::_,[],_,h,_=>by simp at h
 |[],[],_::_,_,h=>by simp at h
 |_::_,_::_,[],_,h=>by simp at h
theorem Wm {E:Env}(hE:jX P E.ty){o:Oper}(ho:o.op=.build T parts)(h:oE C st a w){K:AS->aC R}(hk:Bw E o T parts.toList st K=some r):nm P C o a w K r:=by
 obtain⟨g,hg⟩:=h;unfold Bw at hk;split at hk;rename_i ct kE hT;split at hk;rename_i vs bX sN;split at hk;rename_i cs hbc;obtain⟨g',oB,hlen,yi⟩:=hg.fL (parts.toList.map (·.2));rw[sN]at oB hlen;simp only[cC]at oB hlen;have oC:=hE T _ hT;obtain⟨inf,z,Ca,uL,_,hz,hzc⟩:=oC.elem.info;obtain⟨fs,hu,GP⟩:=oC.agg rfl;have ajb:=oC.count rfl fs hu;have agM:(fs.mapM λf=>do pure (f.offset,<-sizeOf f.type):Sem (Array (Nat×Nat))).run P w=.ok (fs.map λf=>(f.offset,P.cellsOf f.type)) w:=by refine C7 _ _ w fs (λf hf=>?_);obtain⟨i,hi,rfl⟩:=Array.mem_iff_getElem.1 hf;obtain⟨apR,ala⟩:=ajb i fs[i] (Array.getElem?_eq_getElem hi);simp[sizeOf,typeInfo,ala,Program.cellsOf]
 have DE:∀(i fo n:Nat),kE[i]?=some (fo,n)->(λ(i:Nat)=>(fs.map λf=>(f.offset,P.cellsOf f.type))[i]?) i=some (fo,n):=by intro i fo n hi;obtain⟨fd,hfd,h1,_,apR,h2,h3⟩:=GP i fo n hi;simp only[Array.getElem?_map,hfd,dJ,h1,Program.cellsOf,h2,h3,gy]
 have hzero:bR (dk C g' bX w) z.cells.toList (cellsOf ct (.own none) ct.zero) []:=by rw[hzc];exact zM (EX _ _ _)
 have hl1:(parts.toList.map (·.1)).length=((parts.toList.map (·.2)).map a.eval).length:=by simp
 have zI:((parts.toList.map (·.2)).map a.eval).length=vs.length:=by rw[hlen];simp
 obtain⟨ps,p1,p2,p3⟩:=akr (parts.toList.map (·.1)) ((parts.toList.map (·.2)).map a.eval) vs hl1 zI;have apk:wE kE (cellsOf ct (.own none) ct.zero) (ps.map λx=>(x.1,x.2.2.cells))=some cs:=by
  rw[<-hbc];congr 1;have:(ps.map λx=>(x.1,x.2.2.cells))=(ps.map λx=>(x.1,x.2.2)).map (λy=>(y.1,y.2.cells)):=by simp
  rw[this,p2,List.zip_map_right];simp
 obtain⟨jJ,kS,aec,fJ,Cx,hl'⟩:=LM oB (place:=λ(i:Nat)=>(fs.map λf=>(f.offset,P.cellsOf f.type))[i]?) DE ps 0 z.cells _ [] cs
  (λj i v av hj=>by
   have h1:(ps.map λx=>(x.2.1,x.2.2))[j]?=some (v,av):=by simp[hj]
   rw[p3]at h1;simpa using h1) hzero (by simp) (by simp) apk
 have Xj:(parts.map λ(i,x)=>(i,a.eval x)).toList=ps.map λx=>(x.1,x.2.1):=by rw[p1];apply dh;intro j;simp[List.zip_eq_zipWith]
 have fb:(execOp a.eval o).run P w=.ok (.value (.agg jJ)) w:=by simp only[execOp,ho,Instr.build,zeroValue,typeInfo,underlying,Sem.run_bind,run_program,Ca,hz,hu,Result.andThen_ok,Sem.run_pure,agM,Xj,aec]
 refine⟨.agg jJ,w,_,.inl fb,?_,hk⟩;exact oB.Np o.dst rfl rfl rfl rfl (λt ht=>⟨ht,rfl⟩) (Fr.refl _ _) (λ_ _ _ _=>rfl) (λ_ _ _ ho hu=>⟨ho,hu⟩) ⟨jJ.toList,by simp[Cut],fJ⟩ Cx (λb hb=>by obtain⟨j,hj⟩:=hl' b hb;exact⟨(oB.gY b _ hj).1,.inl (by rw[hj];rfl)⟩);cases hk;cases hk
theorem UA {g:Gh}(h:eK C g st a w hs){e:CT}:
 ∀(parts:ay (Nat×Value×AV))(k:Nat)(arr:Array Value)(xs:ay e.D)(fps:ay fR)(ys:ay e.D),(∀j i v av,parts[j]?=some (i,v,av)->hs[k+j]?=some (v,av))->
  (∀j i v av,parts[j]?=some (i,v,av)->i=k+j)->xs.length=k->arr.size=(k+parts.length)*e.size->
  lh g.hw w e (arr.toList.take (k*e.size)) xs fps->fps.flatten.Nodup->(∀b∈fps.flatten,∃j,j<k/\g.fe b=some (.hand j))->
  Cj e (parts.map λx=>x.2.2.cells)=some ys->
  ∃jJ W7,Instr.fill (λi=>some (i*e.size,e.size)) arr (parts.map λx=>(x.1,x.2.1))=some jJ/\jJ.size=arr.size/\lh g.hw w e jJ.toList (xs++ys) W7/\W7.flatten.Nodup/\∀b∈W7.flatten,∃j,g.fe b=some (.hand j)
 |[],k,arr,xs,fps,ys,_,_,hk,uL,Ea,hn,hl,hb=>by simp[Cj]at hb;subst hb;have:arr.toList.take (k*e.size)=arr.toList:=bU (by simp at uL⊢;omega);rw[this]at Ea;exact⟨arr,fps,rfl,rfl,by simpa using Ea,hn,λb hb=>let ⟨j,_,hj⟩:=hl b hb;⟨j,hj⟩⟩
 |(i,v,av)::parts,k,arr,xs,fps,ys,hp,hi,hk,uL,Ea,hn,hl,hb=>by
  simp only[cZ,Cj]at hb;split at hb;rename_i y hof;simp only[aW]at hb;obtain⟨zs,hzs,hyz⟩:=hb;simp at hyz;subst hyz;have hik:i=k:=by simpa using hi 0 i v av rfl
  subst hik;obtain⟨fh,PF,Ob,TX⟩:=h.hands i v av (by simpa using hp 0 i v av rfl);cases av with
  |wh ts=>exfalso;revert hof;simp only[AV.cells];intro hof;have:=xU (c:=dk C g st w) (vs:=[undef]) (cs:=[.bot]) (fp:=[]) ⟨[],[],rfl,rfl,rfl⟩ hof;obtain⟨f1,f2,_,iL,_⟩:=this;have h1:=gi.nC iL undef (by cases hz:e.size with|zero=>have:=e.size_pos;omega|succ n=>simp);cases h1
  |val gg vs=>
   simp only[AV.cells]at hof;obtain⟨us,gm,V0⟩:=PF;obtain⟨f1,f2,aps,iL,uu⟩:=xU V0 hof;have TS:us.drop e.size=[]/\f2=[]:=by cases hd:us.drop e.size with|nil=>rw[hd]at uu;exact⟨rfl,uu⟩|cons p q=>rw[hd]at uu;exact uu.elim
   have hul:us.length<=e.size:=by have:=TS.1;rw[List.drop_eq_nil_iff]at this;exact this
   rw[bU hul]at iL;have ajz:us.length=e.size:=gi.length iL;have h1:=gi.nC iL;have BD:=IJ gm h1;have aaV:arr.size=i*e.size+(parts.length+1)*e.size:=by rw[uL,aS,cW]
   have hpe:e.size<=(parts.length+1)*e.size:=by rw[cW,fY];omega
   have iB:i*e.size+us.length<=arr.size:=by omega
   have Om:fh=f1:=by rw[aps,TS.2,bA]
   subst Om;have sN:(fy arr (i*e.size) us).toList.take ((i+1)*e.size)=arr.toList.take (i*e.size)++us:=by
    rw[vG us arr _ iB];have hl1:(arr.toList.take (i*e.size)++us).length=(i+1)*e.size:=by rw[aj,aY,cW,fY,ajz];simp;omega
    rw[List.take_append_of_le_length (by omega),bU (by omega)]
   have Xi:lh g.hw w e us [y] [fh]:=by refine⟨by simp[ajz],rfl,λj z f hz hf=>?_⟩;cases j with|zero=>simp at hz hf;subst hz;subst hf;rw[Nat.zero_mul,eP,bU (by omega)];exact iL|succ j=>simp at hz
   have apo:lh g.hw w e ((fy arr (i*e.size) us).toList.take ((i+1)*e.size)) (xs++[y]) (fps++[fh]):=by rw[sN];exact Ea.append Xi
   have B6:∀b∈fh,b∉fps.flatten:=by intro b im hm;obtain⟨j,hj,hlj⟩:=hl b hm;rw[TX b im]at hlj;simp at hlj;omega
   obtain⟨jJ,W7,hf,yj,ajc,DJ,zI⟩:=UA h parts (i+1) (fy arr (i*e.size) us) (xs++[y]) (fps++[fh]) zs (λj i' v' Og hj=>by have:=hp (j+1) i' v' Og (by simpa using hj);rwa[show i+(j+1)=i+1+j by omega]at this) (λj i' v' Og hj=>by have:=hi (j+1) i' v' Og (by simpa using hj);omega) (by simp[hk]) (by rw[jt,uL,aS];congr 1;omega) apo (by simp only[eo,List.flatten_cons,List.flatten_nil,bA];refine aM.2 ⟨hn,Ob,?_⟩;rintro b im c yd rfl;exact B6 b yd im) (λb im=>by simp only[eo,List.flatten_cons,List.flatten_nil,bA,ax]at im;rcases im with im|im;obtain⟨j,hj,hlj⟩:=hl b im;exact⟨j,by omega,hlj⟩;exact⟨i,by omega,TX b im⟩) hzs;refine⟨jJ,W7,?_,by rw[yj,jt],by simpa using ajc,DJ,zI⟩;rw[cZ,Ps (by rw[ajz]) BD iB];exact hf
  cases hb
theorem HG:∀{n:Nat}{l:ay (Nat×Operand)},HF n l=true->∀j i x,l[j]?=some (i,x)->i=n+j
 |_,[],_,j,i,x,h=>by simp at h
 |n,(m,y)::l,h,0,i,x,hj=>by simp only[HF,ab,bm]at h;simp at hj;rw[<-hj.1];exact h.1
 |n,(m,y)::l,h,j+1,i,x,hj=>by simp only[HF,ab,bm]at h;have:=HG h.2 j i x (by simpa using hj);omega
theorem KN {E:Env}(hE:jX P E.ty){o:Oper}{len:Nat}(ho:o.op=.buildSlice T len parts)(h:oE C st a w){K:AS->aC R}(hk:mn E o T len parts.toList st K=some r):nm P C o a w K r:=by
 obtain⟨g,hg⟩:=h;unfold mn at hk;split at hk;rename_i e hT;split at hk;rename_i hc;obtain⟨DE,Ot,hlen⟩:=hc;split at hk;rename_i vs bX sN;split at hk;rename_i xs apx;obtain⟨g',oB,V2,yi⟩:=hg.fL (parts.toList.map (·.2));rw[sN]at oB V2;simp only[cC]at oB V2;obtain⟨te,hu,⟨inf,z,Ca,uL,hby,hz,hzc⟩,hsm⟩:=ED hE hT;have hl1:(parts.toList.map (·.1)).length=((parts.toList.map (·.2)).map a.eval).length:=by simp
 have zI:((parts.toList.map (·.2)).map a.eval).length=vs.length:=by rw[V2];simp
 obtain⟨ps,p1,p2,p3⟩:=akr (parts.toList.map (·.1)) ((parts.toList.map (·.2)).map a.eval) vs hl1 zI;have apH:ps.length=len:=by have:=congrArg List.length p1;simp at this;rw[this,<-DE];simp
 have alg:Cj e (ps.map λx=>x.2.2.cells)=some xs:=by
  rw[<-apx];congr 1;have:(ps.map λx=>x.2.2.cells)=(ps.map λx=>(x.1,x.2.2)).map (λy=>y.2.cells):=by simp
  rw[this,p2];have h2:((parts.toList.map (·.1)).zip vs).map (λy=>y.2.cells)=(((parts.toList.map (·.1)).zip vs).map Prod.snd).map AV.cells:=by simp
  rw[h2,List.map_snd_zip (by rw[<-zI,<-hl1];exact aV _)]
 have Xj:(parts.map λ(i,x)=>(i,a.eval x)).toList=ps.map λx=>(x.1,x.2.1):=by rw[p1];apply dh;intro j;simp[List.zip_eq_zipWith]
 have hzs:z.cells.size=e.size:=by rw[<-pO e,<-hzc];simp
 let akW:Array Value:=madeCells (if len*e.size=0 then #[] else z.cells) (len*e.size);have ha0:akW.size=len*e.size:=size_madeCells _ _
 obtain⟨jJ,W7,aec,yj,Ea,Cx,hl'⟩:=UA oB (e:=e) ps 0 akW [] [] xs
  (λj i v av hj=>by
   have h1:(ps.map λx=>(x.2.1,x.2.2))[j]?=some (v,av):=by simp[hj]
   rw[p3]at h1;simpa using h1)
  (λj i v av hj=>by
   have h1:(ps.map λx=>(x.1,x.2.1))[j]?=some (i,v):=by simp[hj]
   rw[p1]at h1;rw[List.getElem?_zip_eq_some]at h1;have h2:=h1.1;rw[List.getElem?_map]at h2;cases hq:parts.toList[j]? with|none=>rw[hq]at h2;cases h2|some q=>rw[hq]at h2;simp at h2;have:=HG Ot j q.1 q.2 hq;omega) rfl (by rw[ha0,apH];simp) (by simpa using lh.nil _ _ _) (by simp) (by simp) alg
 have hxl:xs.length=len:=by have h1:=Ea.1;rw[Array.length_toList,yj,ha0,cC]at h1;exact(Nat.eq_of_mul_eq_mul_right e.size_pos h1).symm
 have apK:¬(16777216<len*e.size):=by have:len*e.size<=1000*4096:=Nat.mul_le_mul hlen hsm;omega
 have fb:(execOp a.eval o).run P w=.ok (.value (.slice (some ⟨w.heap.size,0,none⟩) len len)) (w.alloc (.cells jJ te)):=by
  have RI:Instr.fill (λi=>some (i*e.size,e.size)) ((Array.range (len*e.size)).map ((if len*e.size=0 then(#[]:Array Value) else z.cells)[·%(if len*e.size=0 then(#[]:Array Value) else z.cells).size]!)) (parts.map λ(i,x)=>(i,a.eval x)).toList=some jJ:=by rw[Xj];exact aec
  by_cases h0:len*e.size=0;rw[aF h0]at RI;simp only[execOp,ho,Instr.buildSlice,underlying,Sem.run_bind,run_program,hu,Result.andThen_ok,Sem.run_pure,sizeOf,typeInfo,Ca,uL];rw[kl,aF h0];simp only[Sem.run_pure,Result.andThen_ok,RI,newRow,Sem.run_bind,run_newObj];rfl;rw[aH h0]at RI;simp only[execOp,ho,Instr.buildSlice,underlying,Sem.run_bind,run_program,hu,Result.andThen_ok,Sem.run_pure,sizeOf,typeInfo,Ca,uL];rw[kl,aH h0];simp only[zeroValue,typeInfo,Sem.run_bind,run_program,Ca,hz,Sem.run_pure,Result.andThen_ok,RI,newRow,run_newObj];rfl
 refine⟨_,_,_,.inl fb,?_,hk⟩;have ajc:lh g'.hw w e (jJ.toList.take (xs.length*e.size)) xs W7:=by rw[bU (by rw[Array.length_toList,yj,ha0,hxl];exact aV _)];simpa using Ea
 have:=oB.M9 o.dst (T:=te) (fr:=(0,0)) (cap:=len) (.inl rfl) (by intro j _;simp) (by rw[yj,ha0]) (by omega) ajc Cx (λb hb=>by obtain⟨j,hj⟩:=hl' b hb;rw[hj];rfl);rw[hxl]at this;exact this;cases hk;cases hk;cases hk
end Go.Dn
