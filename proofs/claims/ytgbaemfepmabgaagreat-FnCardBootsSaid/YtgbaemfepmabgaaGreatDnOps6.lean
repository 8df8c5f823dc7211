import Derived.Test.YtgbaemfepmabgaaGreatDnOps5
/- Part 6: structs and slices that are built; append. -/
namespace Go.Dn
open Go.RowKit
variable {P:Program} {C:Ctx} {st:AS} {a:Act} {w:World} {R:Type} {r:R}
variable {parts:Array (Nat×Operand)} {T:TypeId}
theorem ez.fE:∀(xs:aw Operand){g:Gh}{st:AS}{hs:aw (Value×AV)},ez C g st a w hs->
 ∃g',ez C g' (fE st xs).2 a w (hs++(xs.map a.eval).zip (fE st xs).1)/\(fE st xs).1.length=xs.length/\(fE st xs).2.ep=st.ep
 |[],g,st,hs,h=>⟨g,by simpa[Dn.fE]using h,rfl,rfl⟩
 |x::xs,g,st,hs,h=>by obtain⟨g1,h1⟩:=h.take x;obtain⟨g2,h2,hl,hep⟩:=ez.fE xs h1;refine⟨g2,?_,by simp[Dn.fE,hl],by simp only[Dn.fE];rw[hep,Sa]⟩;simpa[Dn.fE]using h2
theorem Vo {α β:Type}(f:α->Sem β)(gf:α->β)(w:World):∀(l:aw α),(∀x∈l,(f x).run P w=.ok (gf x) w)->(l.mapM f).run P w=.ok (l.map gf) w
 |[],_=>by simp
 |x::l,h=>by rw[List.mapM_cons];simp only[Sem.run_bind,h x (by simp),Result.andThen_ok,Vo f gf w l (λy hy=>h y (eR _ hy)),Sem.run_pure,di]
theorem Cr {α β:Type}(f:α->Sem β)(gf:α->β)(w:World)(l:Array α)(h:∀x∈l,(f x).run P w=.ok (gf x) w):(l.mapM f).run P w=.ok (l.map gf) w:=by rw[Array.mapM_eq_mapM_toList,Sem.run_map,Vo f gf w l.toList (λx hx=>h x (by simpa using hx))];simp only[Result.andThen_ok,Result.ok.injEq,iU];apply fG;simp
theorem Nq (us:iS):∀(arr:Array Value)(off j:Nat),((us.zipIdx j).foldl (λcs (x:Value×Nat)=>cs.setIfInBounds (off+x.2) x.1) arr)=eX arr (off+j) us:=by induction us with|nil=>intro arr off j;rfl|cons u us ih=>intro arr off j;rw[List.zipIdx_cons,dL,ih];rfl
theorem Om {place:Nat->az (Nat×Nat)}{cells:Array Value}{i:Nat}{v:Value}{rest:aw (Nat×Value)}{off:Nat}{us:iS}(hp:place i=some (off,us.length))(hv:v.cells.toList=us)(hfit:off+us.length<=cells.size):Instr.fill place cells ((i,v)::rest)=Instr.fill place (eX cells off us) rest:=by
 have hsz:v.cells.size=us.length:=by rw[<-hv];simp
 rw[Instr.fill,hp];simp only[hsz];rw[aD (by simp;omega)];congr 1;have:v.cells=us.toArray:=by apply fG;simpa using hv
 rw[this];have h2:=Nq us cells off 0;rw[eG]at h2;rw[<-h2];rw[<-Array.foldl_toList];simp
theorem acx {cs vs:aw AC}{off n:Nat}(h:vs.length=n):eQ cs off vs=cs.take off++vs++cs.drop (off+n):=by simp only[eQ];rw[h]
theorem KN {g:Gh}{hs:aw (Value×AV)}(h:ez C g st a w hs){offs:aw (Nat×Nat)}{place:Nat->az (Nat×Nat)}(hpl:∀i fo n,offs[i]?=some (fo,n)->place i=some (fo,n)):
 ∀(parts:aw (Nat×Value×AV))(k:Nat)(arr:Array Value)(zs:aw AC)(fp:fu)(cs:aw AC),(∀j i v av,parts[j]?=some (i,v,av)->hs[k+j]?=some (v,av))->
  bR (dc C g st w) arr.toList zs fp->fp.Nodup->(∀b∈fp,∃j,j<k/\g.lab b=some (.hand j))->
  wb offs zs (parts.map λx=>(x.1,x.2.2.cells))=some cs->
  ∃arr' fp',Instr.fill place arr (parts.map λx=>(x.1,x.2.1))=some arr'/\bR (dc C g st w) arr'.toList cs fp'/\fp'.Nodup/\∀b∈fp',∃j,g.lab b=some (.hand j)
 |[],k,arr,zs,fp,cs,_,hr,hn,hl,hb=>by simp[wb]at hb;subst hb;exact⟨arr,fp,rfl,hr,hn,λb hb=>let ⟨j,_,hj⟩:=hl b hb;⟨j,hj⟩⟩
 |(i,v,av)::parts,k,arr,zs,fp,cs,hp,hr,hn,hl,hb=>by
  simp only[di,wb,ei]at hb;split at hb;rename_i off n hoff;split at hb;rename_i hc;obtain⟨fh,hrv,hnh,hlh⟩:=h.hands k v av (by simpa using hp 0 i v av rfl);cases av with
  |tup ts=>simp[AV.cells,AC.Hj]at hc
  |val gg vs=>
   simp only[AV.cells]at hc hb;obtain⟨us,hcut,hrh⟩:=hrv;have hul:=hrh.length;have h1:=hrh.mZ hc.2.2;have hcells:=HP hcut h1;have hal:=hr.length;have hal':arr.size=zs.length:=by simpa using hal
   have hfit:off+us.length<=arr.size:=by omega
   have hplace:place i=some (off,us.length):=by rw[hpl i off n hoff];congr 2;omega
   obtain⟨f1,f2,f3,rfl,r1,r2,r3⟩:=hr.mid off us.length;have hrel:bR (dc C g st w) (eX arr off us).toList (eQ zs off vs) (f1++fh++f3):=by rw[vF us arr off hfit,acx hul.symm];exact(r1.append hrh).append r3
   have hdis:∀b∈fh,b∉f1++f2++f3:=by intro b hb' hm;obtain⟨j,hj,hlj⟩:=hl b hm;rw[hlh b hb']at hlj;simp at hlj;omega
   have hn':=hn;rw[aZ]at hn';have n1:=aO.1 hn';have n2:=aO.1 n1.2.1;have hnod:(f1++fh++f3).Nodup:=by rw[aZ];refine aO.2 ⟨n1.1,aO.2 ⟨hnh,n2.2.1,?_⟩,?_⟩;rintro b hb' c hc' rfl;exact hdis b hb' (by simp[hc']);rintro b hb' c hc' rfl;rcases ay.1 hc' with hc'|hc';exact hdis b hc' (by simp[hb']);exact n1.2.2 b hb' b (bw _ hc') rfl
   obtain⟨arr',fp',hf,hrel',hn2',hl'⟩:=KN h hpl parts (k+1) (eX arr off us) (eQ zs off vs) (f1++fh++f3) cs (λj i' v' av' hj=>by have:=hp (j+1) i' v' av' (by simpa using hj);rwa[show k+(j+1)=k+1+j by omega]at this) hrel hnod (λb hb'=>by simp only[ay]at hb';rcases hb' with(hb'|hb')|hb';obtain⟨j,hj,hlj⟩:=hl b (by simp[hb']);exact⟨j,by omega,hlj⟩;exact⟨k,by omega,hlh b hb'⟩;obtain⟨j,hj,hlj⟩:=hl b (by simp[hb']);exact⟨j,by omega,hlj⟩) hb;refine⟨arr',fp',?_,hrel',hn2',hl'⟩;rw[di,Om hplace hcells hfit];exact hf
  cases hb;cases hb
theorem anf {α β γ:Type}:∀(l:aw α)(m:aw β)(n:aw γ),l.length=m.length->m.length=n.length->
 ∃ps:aw (α×β×γ),ps.map (λx=>(x.1,x.2.1))=l.zip m/\ps.map (λx=>(x.1,x.2.2))=l.zip n/\ps.map (λx=>(x.2.1,x.2.2))=m.zip n
 |[],[],[],_,_=>⟨[],rfl,rfl,rfl⟩
 |x::l,y::m,z::n,h1,h2=>by obtain⟨ps,p1,p2,p3⟩:=anf l m n (by simpa using h1) (by simpa using h2);exact⟨(x,y,z)::ps,by simp[p1],by simp[p2],by simp[p3]⟩
 |[],_::_,_,h,_=>by simp at h
 |_::_,[],_,h,_=>by simp at h
 |[],[],_::_,_,h=>by simp at h
 |_::_,_::_,[],_,h=>by simp at h
theorem Wl {E:Env}(hE:jA P E.ty){o:Oper}(ho:o.op=.build T parts)(h:oa C st a w){K:AS->az R}(hk:Bh E o T parts.toList st K=some r):mL P C o a w K r:=by
 obtain⟨g,hg⟩:=h;unfold Bh at hk;split at hk;rename_i ct offs hT;split at hk;rename_i vs st' htk;split at hk;rename_i cs hbc;obtain⟨g',hg',hlen,hep⟩:=hg.fE (parts.toList.map (·.2));rw[htk]at hg' hlen;simp only[cj]at hg' hlen;have hok:=hE T _ hT;obtain⟨inf,z,hinf,hsz,_,hz,hzc⟩:=hok.elem.info;obtain⟨fs,hu,hfs⟩:=hok.agg rfl;have hcount:=hok.count rfl fs hu;have hplaces:(fs.mapM λf=>do pure (f.offset,<-sizeOf f.type):Sem (Array (Nat×Nat))).run P w=.ok (fs.map λf=>(f.offset,P.cellsOf f.type)) w:=by refine Cr _ _ w fs (λf hf=>?_);obtain⟨i,hi,rfl⟩:=Array.mem_iff_getElem.1 hf;obtain⟨inf',hinf'⟩:=hcount i fs[i] (Array.getElem?_eq_getElem hi);simp[sizeOf,typeInfo,hinf',Program.cellsOf]
 have hpl:∀(i fo n:Nat),offs[i]?=some (fo,n)->(λ(i:Nat)=>(fs.map λf=>(f.offset,P.cellsOf f.type))[i]?) i=some (fo,n):=by intro i fo n hi;obtain⟨fd,hfd,h1,_,inf',h2,h3⟩:=hfs i fo n hi;simp only[Array.getElem?_map,hfd,dB,h1,Program.cellsOf,h2,h3,fT]
 have hzero:bR (dc C g' st' w) z.cells.toList (cellsOf ct (.own none) ct.zero) []:=by rw[hzc];exact zu (Ea _ _ _)
 have hl1:(parts.toList.map (·.1)).length=((parts.toList.map (·.2)).map a.eval).length:=by simp
 have hl2:((parts.toList.map (·.2)).map a.eval).length=vs.length:=by rw[hlen];simp
 obtain⟨ps,p1,p2,p3⟩:=anf (parts.toList.map (·.1)) ((parts.toList.map (·.2)).map a.eval) vs hl1 hl2;have hbc':wb offs (cellsOf ct (.own none) ct.zero) (ps.map λx=>(x.1,x.2.2.cells))=some cs:=by
  rw[<-hbc];congr 1;have:(ps.map λx=>(x.1,x.2.2.cells))=(ps.map λx=>(x.1,x.2.2)).map (λy=>(y.1,y.2.cells)):=by simp
  rw[this,p2,List.zip_map_right];simp
 obtain⟨arr',fp',hfill,hrel,hn',hl'⟩:=KN hg' (place:=λ(i:Nat)=>(fs.map λf=>(f.offset,P.cellsOf f.type))[i]?) hpl ps 0 z.cells _ [] cs
  (λj i v av hj=>by
   have h1:(ps.map λx=>(x.2.1,x.2.2))[j]?=some (v,av):=by simp[hj]
   rw[p3]at h1;simpa using h1) hzero (by simp) (by simp) hbc'
 have hparts:(parts.map λ(i,x)=>(i,a.eval x)).toList=ps.map λx=>(x.1,x.2.1):=by rw[p1];apply cL;intro j;simp[List.zip_eq_zipWith]
 have hrun:(execOp a.eval o).run P w=.ok (.value (.agg arr')) w:=by simp only[execOp,ho,Instr.build,zeroValue,typeInfo,underlying,Sem.run_bind,run_program,hinf,hz,hu,Result.andThen_ok,Sem.run_pure,hplaces,hparts,hfill]
 refine⟨.agg arr',w,_,.inl hrun,?_,hk⟩;exact hg'.MD o.dst rfl rfl rfl rfl (λt ht=>⟨ht,rfl⟩) (Fr.refl _ _) (λ_ _ _ _=>rfl) (λ_ _ _ ho hu=>⟨ho,hu⟩) ⟨arr'.toList,by simp[Cut],hrel⟩ hn' (λb hb=>by obtain⟨j,hj⟩:=hl' b hb;exact⟨(hg'.labs b _ hj).1,.inl (by rw[hj];rfl)⟩);cases hk;cases hk
theorem UD {g:Gh}{hs:aw (Value×AV)}(h:ez C g st a w hs){e:CT}:
 ∀(parts:aw (Nat×Value×AV))(k:Nat)(arr:Array Value)(xs:aw e.D)(fps:aw fu)(ys:aw e.D),(∀j i v av,parts[j]?=some (i,v,av)->hs[k+j]?=some (v,av))->
  (∀j i v av,parts[j]?=some (i,v,av)->i=k+j)->xs.length=k->arr.size=(k+parts.length)*e.size->
  ky g.hw w e (arr.toList.take (k*e.size)) xs fps->fps.flatten.Nodup->(∀b∈fps.flatten,∃j,j<k/\g.lab b=some (.hand j))->
  BJ e (parts.map λx=>x.2.2.cells)=some ys->
  ∃arr' fps',Instr.fill (λi=>some (i*e.size,e.size)) arr (parts.map λx=>(x.1,x.2.1))=some arr'/\arr'.size=arr.size/\ky g.hw w e arr'.toList (xs++ys) fps'/\fps'.flatten.Nodup/\∀b∈fps'.flatten,∃j,g.lab b=some (.hand j)
 |[],k,arr,xs,fps,ys,_,_,hk,hsz,hel,hn,hl,hb=>by simp[BJ]at hb;subst hb;have:arr.toList.take (k*e.size)=arr.toList:=cd (by simp at hsz⊢;omega);rw[this]at hel;exact⟨arr,fps,rfl,rfl,by simpa using hel,hn,λb hb=>let ⟨j,_,hj⟩:=hl b hb;⟨j,hj⟩⟩
 |(i,v,av)::parts,k,arr,xs,fps,ys,hp,hi,hk,hsz,hel,hn,hl,hb=>by
  simp only[di,BJ]at hb;split at hb;rename_i y hof;simp only[aU]at hb;obtain⟨zs,hzs,hyz⟩:=hb;simp at hyz;subst hyz;have hik:i=k:=by simpa using hi 0 i v av rfl
  subst hik;obtain⟨fh,hrv,hnh,hlh⟩:=h.hands i v av (by simpa using hp 0 i v av rfl);cases av with
  |tup ts=>exfalso;revert hof;simp only[AV.cells];intro hof;have:=xP (c:=dc C g st w) (vs:=[undef]) (cs:=[.bot]) (fp:=[]) ⟨[],[],rfl,rfl,rfl⟩ hof;obtain⟨f1,f2,_,hown,_⟩:=this;have h1:=fM.mZ hown undef (by cases hz:e.size with|zero=>have:=e.size_pos;omega|succ n=>simp);cases h1
  |val gg vs=>
   simp only[AV.cells]at hof;obtain⟨us,hcut,hrh⟩:=hrv;obtain⟨f1,f2,hf12,hown,hrest⟩:=xP hrh hof;have hdrop:us.drop e.size=[]/\f2=[]:=by cases hd:us.drop e.size with|nil=>rw[hd]at hrest;exact⟨rfl,hrest⟩|cons p q=>rw[hd]at hrest;exact hrest.elim
   have hul:us.length<=e.size:=by have:=hdrop.1;rw[List.drop_eq_nil_iff]at this;exact this
   rw[cd hul]at hown;have hul':us.length=e.size:=fM.length hown;have h1:=fM.mZ hown;have hcells:=HP hcut h1;have hsz':arr.size=i*e.size+(parts.length+1)*e.size:=by rw[hsz,bf,cM]
   have hpe:e.size<=(parts.length+1)*e.size:=by rw[cM,fK];omega
   have hfit:i*e.size+us.length<=arr.size:=by omega
   have hfh:fh=f1:=by rw[hf12,hdrop.2,bK]
   subst hfh;have htk:(eX arr (i*e.size) us).toList.take ((i+1)*e.size)=arr.toList.take (i*e.size)++us:=by
    rw[vF us arr _ hfit];have hl1:(arr.toList.take (i*e.size)++us).length=(i+1)*e.size:=by rw[ai,aV,cM,fK,hul'];simp;omega
    rw[List.take_append_of_le_length (by omega),cd (by omega)]
   have hone:ky g.hw w e us [y] [fh]:=by refine⟨by simp[hul'],rfl,λj z f hz hf=>?_⟩;cases j with|zero=>simp at hz hf;subst hz;subst hf;rw[Nat.zero_mul,fi,cd (by omega)];exact hown|succ j=>simp at hz
   have hel':ky g.hw w e ((eX arr (i*e.size) us).toList.take ((i+1)*e.size)) (xs++[y]) (fps++[fh]):=by rw[htk];exact hel.append hone
   have hdis:∀b∈fh,b∉fps.flatten:=by intro b hb' hm;obtain⟨j,hj,hlj⟩:=hl b hm;rw[hlh b hb']at hlj;simp at hlj;omega
   obtain⟨arr',fps',hf,hs',hel2,hn2,hl2⟩:=UD h parts (i+1) (eX arr (i*e.size) us) (xs++[y]) (fps++[fh]) zs (λj i' v' av' hj=>by have:=hp (j+1) i' v' av' (by simpa using hj);rwa[show i+(j+1)=i+1+j by omega]at this) (λj i' v' av' hj=>by have:=hi (j+1) i' v' av' (by simpa using hj);omega) (by simp[hk]) (by rw[iP,hsz,bf];congr 1;omega) hel' (by simp only[eI,List.flatten_cons,List.flatten_nil,bK];refine aO.2 ⟨hn,hnh,?_⟩;rintro b hb' c hc' rfl;exact hdis b hc' hb') (λb hb'=>by simp only[eI,List.flatten_cons,List.flatten_nil,bK,ay]at hb';rcases hb' with hb'|hb';obtain⟨j,hj,hlj⟩:=hl b hb';exact⟨j,by omega,hlj⟩;exact⟨i,by omega,hlh b hb'⟩) hzs;refine⟨arr',fps',?_,by rw[hs',iP],by simpa using hel2,hn2,hl2⟩;rw[di,Om (by rw[hul']) hcells hfit];exact hf
  cases hb
theorem GU:∀{n:Nat}{l:aw (Nat×Operand)},GS n l=true->∀j i x,l[j]?=some (i,x)->i=n+j
 |_,[],_,j,i,x,h=>by simp at h
 |n,(m,y)::l,h,0,i,x,hj=>by simp only[GS,ae,bm]at h;simp at hj;rw[<-hj.1];exact h.1
 |n,(m,y)::l,h,j+1,i,x,hj=>by simp only[GS,ae,bm]at h;have:=GU h.2 j i x (by simpa using hj);omega
theorem JW {E:Env}(hE:jA P E.ty){o:Oper}{len:Nat}(ho:o.op=.buildSlice T len parts)(h:oa C st a w){K:AS->az R}(hk:lR E o T len parts.toList st K=some r):mL P C o a w K r:=by
 obtain⟨g,hg⟩:=h;unfold lR at hk;split at hk;rename_i e hT;split at hk;rename_i hc;obtain⟨hpl,hio,hlen⟩:=hc;split at hk;rename_i vs st' htk;split at hk;rename_i xs hlit;obtain⟨g',hg',hvl,hep⟩:=hg.fE (parts.toList.map (·.2));rw[htk]at hg' hvl;simp only[cj]at hg' hvl;obtain⟨te,hu,⟨inf,z,hinf,hsz,hby,hz,hzc⟩,hsm⟩:=DW hE hT;have hl1:(parts.toList.map (·.1)).length=((parts.toList.map (·.2)).map a.eval).length:=by simp
 have hl2:((parts.toList.map (·.2)).map a.eval).length=vs.length:=by rw[hvl];simp
 obtain⟨ps,p1,p2,p3⟩:=anf (parts.toList.map (·.1)) ((parts.toList.map (·.2)).map a.eval) vs hl1 hl2;have hpsl:ps.length=len:=by have:=congrArg List.length p1;simp at this;rw[this,<-hpl];simp
 have hlit':BJ e (ps.map λx=>x.2.2.cells)=some xs:=by
  rw[<-hlit];congr 1;have:(ps.map λx=>x.2.2.cells)=(ps.map λx=>(x.1,x.2.2)).map (λy=>y.2.cells):=by simp
  rw[this,p2];have h2:((parts.toList.map (·.1)).zip vs).map (λy=>y.2.cells)=(((parts.toList.map (·.1)).zip vs).map Prod.snd).map AV.cells:=by simp
  rw[h2,List.map_snd_zip (by rw[<-hl2,<-hl1];exact bh _)]
 have hparts:(parts.map λ(i,x)=>(i,a.eval x)).toList=ps.map λx=>(x.1,x.2.1):=by rw[p1];apply cL;intro j;simp[List.zip_eq_zipWith]
 have hzs:z.cells.size=e.size:=by rw[<-pC e,<-hzc];simp
 let arr0:Array Value:=madeCells (if len*e.size=0 then #[] else z.cells) (len*e.size);have ha0:arr0.size=len*e.size:=size_madeCells _ _
 obtain⟨arr',fps',hfill,hs',hel,hn',hl'⟩:=UD hg' (e:=e) ps 0 arr0 [] [] xs
  (λj i v av hj=>by
   have h1:(ps.map λx=>(x.2.1,x.2.2))[j]?=some (v,av):=by simp[hj]
   rw[p3]at h1;simpa using h1)
  (λj i v av hj=>by
   have h1:(ps.map λx=>(x.1,x.2.1))[j]?=some (i,v):=by simp[hj]
   rw[p1]at h1;rw[List.getElem?_zip_eq_some]at h1;have h2:=h1.1;rw[List.getElem?_map]at h2;cases hq:parts.toList[j]? with|none=>rw[hq]at h2;cases h2|some q=>rw[hq]at h2;simp at h2;have:=GU hio j q.1 q.2 hq;omega) rfl (by rw[ha0,hpsl];simp) (by simpa using ky.nil _ _ _) (by simp) (by simp) hlit'
 have hxl:xs.length=len:=by have h1:=hel.1;rw[Array.length_toList,hs',ha0,cj]at h1;exact(Nat.eq_of_mul_eq_mul_right e.size_pos h1).symm
 have hsmall:¬(16777216<len*e.size):=by have:len*e.size<=1000*4096:=Nat.mul_le_mul hlen hsm;omega
 have hrun:(execOp a.eval o).run P w=.ok (.value (.slice (some ⟨w.heap.size,0,none⟩) len len)) (w.alloc (.cells arr' te)):=by
  have hfill':Instr.fill (λi=>some (i*e.size,e.size)) ((Array.range (len*e.size)).map ((if len*e.size=0 then(#[]:Array Value) else z.cells)[·%(if len*e.size=0 then(#[]:Array Value) else z.cells).size]!)) (parts.map λ(i,x)=>(i,a.eval x)).toList=some arr':=by rw[hparts];exact hfill
  by_cases h0:len*e.size=0;rw[aE h0]at hfill';simp only[execOp,ho,Instr.buildSlice,underlying,Sem.run_bind,run_program,hu,Result.andThen_ok,Sem.run_pure,sizeOf,typeInfo,hinf,hsz];rw[nf,aE h0];simp only[Sem.run_pure,Result.andThen_ok,hfill',newRow,Sem.run_bind,run_newObj];rfl;rw[aD h0]at hfill';simp only[execOp,ho,Instr.buildSlice,underlying,Sem.run_bind,run_program,hu,Result.andThen_ok,Sem.run_pure,sizeOf,typeInfo,hinf,hsz];rw[nf,aD h0];simp only[zeroValue,typeInfo,Sem.run_bind,run_program,hinf,hz,Sem.run_pure,Result.andThen_ok,hfill',newRow,run_newObj];rfl
 refine⟨_,_,_,.inl hrun,?_,hk⟩;have hel2:ky g'.hw w e (arr'.toList.take (xs.length*e.size)) xs fps':=by rw[cd (by rw[Array.length_toList,hs',ha0,hxl];exact bh _)];simpa using hel
 have:=hg'.Mq o.dst (T:=te) (fr:=(0,0)) (cap:=len) (.inl rfl) (by intro j _;simp) (by rw[hs',ha0]) (by omega) hel2 hn' (λb hb=>by obtain⟨j,hj⟩:=hl' b hb;rw[hj];rfl);rw[hxl]at this;exact this;cases hk;cases hk;cases hk
end Go.Dn
