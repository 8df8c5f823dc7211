import Derived.Test.YtnmppgnbjfdffaaGreatDnOps5
/- Part 6: structs and slices that are built; append. -/
namespace Go.Dn
open Go.RowKit
variable {P:Program} {C:Ctx} {st:AS} {a:Act} {w:World} {R:Type} {r:R}
variable {parts:Array (Nat×Operand)} {place:Nat->ax (Nat×Nat)} {T:TypeId} {hs:aw (Value×AV)}
theorem dM.eO:∀(xs:aw Operand){g:Gh}{st:AS}{hs:aw (Value×AV)},dM C g st a w hs->
 ∃g',dM C g' (eO st xs).2 a w (hs++(xs.map a.eval).zip (eO st xs).1)/\(eO st xs).1.length=xs.length/\(eO st xs).2.ep=st.ep
 |[],g,st,hs,h=>⟨g,by simpa[Dn.eO]using h,rfl,rfl⟩
 |x::xs,g,st,hs,h=>by obtain⟨g1,h1⟩:=h.take x;obtain⟨g2,h2,hl,wN⟩:=dM.eO xs h1;refine⟨g2,?_,by simp[Dn.eO,hl],by simp only[Dn.eO];rw[wN,Qp]⟩;simpa[Dn.eO]using h2
theorem S2 {α β:Type}(f:α->Sem β)(gf:α->β)(w:World):∀(l:aw α),(∀x∈l,(f x).run P w=.ok (gf x) w)->(l.mapM f).run P w=.ok (l.map gf) w
 |[],_=>by simp
 |x::l,h=>by rw[List.mapM_cons];simp only[Sem.run_bind,h x (by simp),Result.andThen_ok,S2 f gf w l (λy hy=>h y (ec _ hy)),Sem.run_pure,cV]
theorem Bt {α β:Type}(f:α->Sem β)(gf:α->β)(w:World)(l:Array α)(h:∀x∈l,(f x).run P w=.ok (gf x) w):(l.mapM f).run P w=.ok (l.map gf) w:=by rw[Array.mapM_eq_mapM_toList,Sem.run_map,S2 f gf w l.toList (λx hx=>h x (by simpa using hx))];simp only[Result.andThen_ok,Result.ok.injEq,iu];apply eQ;simp
theorem L2 (us:iq):∀(arr:Array Value)(off j:Nat),((us.zipIdx j).foldl (λcs (x:Value×Nat)=>cs.setIfInBounds (off+x.2) x.1) arr)=eC arr (off+j) us:=by induction us with|nil=>intro arr off j;rfl|cons u us ih=>intro arr off j;rw[List.zipIdx_cons,cZ,ih];rfl
theorem Nb {cells:Array Value}{i:Nat}{v:Value}{rest:aw (Nat×Value)}{off:Nat}{us:iq}(hp:place i=some (off,us.length))(hv:v.cells.toList=us)(gw:off+us.length<=cells.size):Instr.fill place cells ((i,v)::rest)=Instr.fill place (eC cells off us) rest:=by
 have ti:v.cells.size=us.length:=by rw[<-hv];simp
 rw[Instr.fill,hp];simp only[ti];rw[aH (by simp;omega)];congr 1;have:v.cells=us.toArray:=by apply eQ;simpa using hv
 rw[this];have h2:=L2 us cells off 0;rw[dT]at h2;rw[<-h2];rw[<-Array.foldl_toList];simp
theorem aas {cs vs:aw AC}{off n:Nat}(h:vs.length=n):dZ cs off vs=cs.take off++vs++cs.drop (off+n):=by simp only[dZ];rw[h]
theorem JQ {g:Gh}(h:dM C g st a w hs){jw:aw (Nat×Nat)}(Dr:∀i fo n,jw[i]?=some (fo,n)->place i=some (fo,n)):
 ∀(parts:aw (Nat×Value×AV))(k:Nat)(arr:Array Value)(zs:aw AC)(fp:fw)(cs:aw AC),(∀j i v av,parts[j]?=some (i,v,av)->hs[k+j]?=some (v,av))->
  bB (cH C g st w) arr.toList zs fp->fp.Nodup->(∀b∈fp,∃j,j<k/\g.ej b=some (.hand j))->
  uN jw zs (parts.map λx=>(x.1,x.2.2.cells))=some cs->
  ∃iJ jK,Instr.fill place arr (parts.map λx=>(x.1,x.2.1))=some iJ/\bB (cH C g st w) iJ.toList cs jK/\jK.Nodup/\∀b∈jK,∃j,g.ej b=some (.hand j)
 |[],k,arr,zs,fp,cs,_,hr,hn,hl,hb=>by simp[uN]at hb;subst hb;exact⟨arr,fp,rfl,hr,hn,λb hb=>let ⟨j,_,hj⟩:=hl b hb;⟨j,hj⟩⟩
 |(i,v,av)::parts,k,arr,zs,fp,cs,hp,hr,hn,hl,hb=>by
  simp only[cV,uN,dJ]at hb;split at hb;rename_i off n Mn;split at hb;rename_i hc;obtain⟨fh,Nn,L6,RE⟩:=h.hands k v av (by simpa using hp 0 i v av rfl);cases av with
  |uF ts=>simp[AV.cells,AC.Gw]at hc
  |val gg vs=>
   simp only[AV.cells]at hc hb;obtain⟨us,fi,TK⟩:=Nn;have hul:=TK.length;have h1:=TK.my hc.2.2;have zP:=G2 fi h1;have hal:=hr.length;have aoa:arr.size=zs.length:=by simpa using hal
   have gw:off+us.length<=arr.size:=by omega
   have ahf:place i=some (off,us.length):=by rw[Dr i off n Mn];congr 2;omega
   obtain⟨f1,f2,f3,rfl,r1,r2,r3⟩:=hr.mid off us.length;have eL:bB (cH C g st w) (eC arr off us).toList (dZ zs off vs) (f1++fh++f3):=by rw[tZ us arr off gw,aas hul.symm];exact(r1.append TK).append r3
   have BU:∀b∈fh,b∉f1++f2++f3:=by intro b gM hm;obtain⟨j,hj,hlj⟩:=hl b hm;rw[RE b gM]at hlj;simp at hlj;omega
   have BP:=hn;rw[aQ]at BP;have n1:=aI.1 BP;have n2:=aI.1 n1.2.1;have ahb:(f1++fh++f3).Nodup:=by rw[aQ];refine aI.2 ⟨n1.1,aI.2 ⟨L6,n2.2.1,?_⟩,?_⟩;rintro b gM c xg rfl;exact BU b gM (by simp[xg]);rintro b gM c xg rfl;rcases ay.1 xg with xg|xg;exact BU b xg (by simp[gM]);exact n1.2.2 b gM b (bj _ xg) rfl
   obtain⟨iJ,jK,hf,uK,anq,hl'⟩:=JQ h Dr parts (k+1) (eC arr off us) (dZ zs off vs) (f1++fh++f3) cs (λj i' v' Mb hj=>by have:=hp (j+1) i' v' Mb (by simpa using hj);rwa[show k+(j+1)=k+1+j by omega]at this) eL ahb (λb gM=>by simp only[ay]at gM;rcases gM with(gM|gM)|gM;obtain⟨j,hj,hlj⟩:=hl b (by simp[gM]);exact⟨j,by omega,hlj⟩;exact⟨k,by omega,RE b gM⟩;obtain⟨j,hj,hlj⟩:=hl b (by simp[gM]);exact⟨j,by omega,hlj⟩) hb;refine⟨iJ,jK,?_,uK,anq,hl'⟩;rw[cV,Nb ahf zP gw];exact hf
  cases hb;cases hb
theorem aie {α β γ:Type}:∀(l:aw α)(m:aw β)(n:aw γ),l.length=m.length->m.length=n.length->
 ∃ps:aw (α×β×γ),ps.map (λx=>(x.1,x.2.1))=l.zip m/\ps.map (λx=>(x.1,x.2.2))=l.zip n/\ps.map (λx=>(x.2.1,x.2.2))=m.zip n
 |[],[],[],_,_=>⟨[],rfl,rfl,rfl⟩
 |x::l,y::m,z::n,h1,h2=>by obtain⟨ps,p1,p2,p3⟩:=aie l m n (by simpa using h1) (by simpa using h2);exact⟨(x,y,z)::ps,by simp[p1],by simp[p2],by simp[p3]⟩
 |[],_::_,_,h,_=>by simp at h
 |_::_,[],_,h,_=>by simp at h
 |[],[],_::_,_,h=>by simp at h
 |_::_,_::_,[],_,h=>by simp at h
theorem T3 {E:Env}(hE:ja P E.ty){o:Oper}(ho:o.op=.build T parts)(h:np C st a w){K:AS->ax R}(hk:zJ E o T parts.toList st K=some r):ma P C o a w K r:=by
 obtain⟨g,hg⟩:=h;unfold zJ at hk;split at hk;rename_i ct jw hT;split at hk;rename_i vs bH rk;split at hk;rename_i cs hbc;obtain⟨g',nm,hlen,wN⟩:=hg.eO (parts.toList.map (·.2));rw[rk]at nm hlen;simp only[cA]at nm hlen;have nn:=hE T _ hT;obtain⟨inf,z,Al,ti,_,hz,hzc⟩:=nn.elem.info;obtain⟨fs,hu,E9⟩:=nn.agg rfl;have agT:=nn.count rfl fs hu;have aeF:(fs.mapM λf=>do pure (f.offset,<-sizeOf f.type):Sem (Array (Nat×Nat))).run P w=.ok (fs.map λf=>(f.offset,P.cellsOf f.type)) w:=by refine Bt _ _ w fs (λf hf=>?_);obtain⟨i,hi,rfl⟩:=Array.mem_iff_getElem.1 hf;obtain⟨anH,ai0⟩:=agT i fs[i] (Array.getElem?_eq_getElem hi);simp[sizeOf,typeInfo,ai0,Program.cellsOf]
 have Dr:∀(i fo n:Nat),jw[i]?=some (fo,n)->(λ(i:Nat)=>(fs.map λf=>(f.offset,P.cellsOf f.type))[i]?) i=some (fo,n):=by intro i fo n hi;obtain⟨fd,hfd,h1,_,anH,h2,h3⟩:=E9 i fo n hi;simp only[Array.getElem?_map,hfd,dc,h1,Program.cellsOf,h2,h3,fB]
 have hzero:bB (cH C g' bH w) z.cells.toList (cellsOf ct (.own none) ct.zero) []:=by rw[hzc];exact yd (C9 _ _ _)
 have hl1:(parts.toList.map (·.1)).length=((parts.toList.map (·.2)).map a.eval).length:=by simp
 have xY:((parts.toList.map (·.2)).map a.eval).length=vs.length:=by rw[hlen];simp
 obtain⟨ps,p1,p2,p3⟩:=aie (parts.toList.map (·.1)) ((parts.toList.map (·.2)).map a.eval) vs hl1 xY;have ana:uN jw (cellsOf ct (.own none) ct.zero) (ps.map λx=>(x.1,x.2.2.cells))=some cs:=by
  rw[<-hbc];congr 1;have:(ps.map λx=>(x.1,x.2.2.cells))=(ps.map λx=>(x.1,x.2.2)).map (λy=>(y.1,y.2.cells)):=by simp
  rw[this,p2,List.zip_map_right];simp
 obtain⟨iJ,jK,ab2,eL,BP,hl'⟩:=JQ nm (place:=λ(i:Nat)=>(fs.map λf=>(f.offset,P.cellsOf f.type))[i]?) Dr ps 0 z.cells _ [] cs
  (λj i v av hj=>by
   have h1:(ps.map λx=>(x.2.1,x.2.2))[j]?=some (v,av):=by simp[hj]
   rw[p3]at h1;simpa using h1) hzero (by simp) (by simp) ana
 have U0:(parts.map λ(i,x)=>(i,a.eval x)).toList=ps.map λx=>(x.1,x.2.1):=by rw[p1];apply cn;intro j;simp[List.zip_eq_zipWith]
 have ee:(execOp a.eval o).run P w=.ok (.value (.agg iJ)) w:=by simp only[execOp,ho,Instr.build,zeroValue,typeInfo,underlying,Sem.run_bind,run_program,Al,hz,hu,Result.andThen_ok,Sem.run_pure,aeF,U0,ab2]
 refine⟨.agg iJ,w,_,.inl ee,?_,hk⟩;exact nm.Ll o.dst rfl rfl rfl rfl (λt ht=>⟨ht,rfl⟩) (Fr.refl _ _) (λ_ _ _ _=>rfl) (λ_ _ _ ho hu=>⟨ho,hu⟩) ⟨iJ.toList,by simp[Cut],eL⟩ BP (λb hb=>by obtain⟨j,hj⟩:=hl' b hb;exact⟨(nm.fS b _ hj).1,.inl (by rw[hj];rfl)⟩);cases hk;cases hk
theorem Sk {g:Gh}(h:dM C g st a w hs){e:CT}:
 ∀(parts:aw (Nat×Value×AV))(k:Nat)(arr:Array Value)(xs:aw e.D)(fps:aw fw)(ys:aw e.D),(∀j i v av,parts[j]?=some (i,v,av)->hs[k+j]?=some (v,av))->
  (∀j i v av,parts[j]?=some (i,v,av)->i=k+j)->xs.length=k->arr.size=(k+parts.length)*e.size->
  jV g.hw w e (arr.toList.take (k*e.size)) xs fps->fps.flatten.Nodup->(∀b∈fps.flatten,∃j,j<k/\g.ej b=some (.hand j))->
  Av e (parts.map λx=>x.2.2.cells)=some ys->
  ∃iJ UK,Instr.fill (λi=>some (i*e.size,e.size)) arr (parts.map λx=>(x.1,x.2.1))=some iJ/\iJ.size=arr.size/\jV g.hw w e iJ.toList (xs++ys) UK/\UK.flatten.Nodup/\∀b∈UK.flatten,∃j,g.ej b=some (.hand j)
 |[],k,arr,xs,fps,ys,_,_,hk,ti,Cr,hn,hl,hb=>by simp[Av]at hb;subst hb;have:arr.toList.take (k*e.size)=arr.toList:=bK (by simp at ti⊢;omega);rw[this]at Cr;exact⟨arr,fps,rfl,rfl,by simpa using Cr,hn,λb hb=>let ⟨j,_,hj⟩:=hl b hb;⟨j,hj⟩⟩
 |(i,v,av)::parts,k,arr,xs,fps,ys,hp,hi,hk,ti,Cr,hn,hl,hb=>by
  simp only[cV,Av]at hb;split at hb;rename_i y hof;simp only[aL]at hb;obtain⟨zs,hzs,hyz⟩:=hb;simp at hyz;subst hyz;have hik:i=k:=by simpa using hi 0 i v av rfl
  subst hik;obtain⟨fh,Nn,L6,RE⟩:=h.hands i v av (by simpa using hp 0 i v av rfl);cases av with
  |uF ts=>exfalso;revert hof;simp only[AV.cells];intro hof;have:=wy (c:=cH C g st w) (vs:=[undef]) (cs:=[.bot]) (fp:=[]) ⟨[],[],rfl,rfl,rfl⟩ hof;obtain⟨f1,f2,_,gE,_⟩:=this;have h1:=ff.my gE undef (by cases hz:e.size with|zero=>have:=e.size_pos;omega|succ n=>simp);cases h1
  |val gg vs=>
   simp only[AV.cells]at hof;obtain⟨us,fi,TK⟩:=Nn;obtain⟨f1,f2,ani,gE,sT⟩:=wy TK hof;have Ry:us.drop e.size=[]/\f2=[]:=by cases hd:us.drop e.size with|nil=>rw[hd]at sT;exact⟨rfl,sT⟩|cons p q=>rw[hd]at sT;exact sT.elim
   have hul:us.length<=e.size:=by have:=Ry.1;rw[List.drop_eq_nil_iff]at this;exact this
   rw[bK hul]at gE;have ahl:us.length=e.size:=ff.length gE;have h1:=ff.my gE;have zP:=G2 fi h1;have YA:arr.size=i*e.size+(parts.length+1)*e.size:=by rw[ti,bc,cy]
   have hpe:e.size<=(parts.length+1)*e.size:=by rw[cy,fb];omega
   have gw:i*e.size+us.length<=arr.size:=by omega
   have Mi:fh=f1:=by rw[ani,Ry.2,bV]
   subst Mi;have rk:(eC arr (i*e.size) us).toList.take ((i+1)*e.size)=arr.toList.take (i*e.size)++us:=by
    rw[tZ us arr _ gw];have hl1:(arr.toList.take (i*e.size)++us).length=(i+1)*e.size:=by rw[ai,aY,cy,fb,ahl];simp;omega
    rw[List.take_append_of_le_length (by omega),bK (by omega)]
   have UZ:jV g.hw w e us [y] [fh]:=by refine⟨by simp[ahl],rfl,λj z f hz hf=>?_⟩;cases j with|zero=>simp at hz hf;subst hz;subst hf;rw[Nat.zero_mul,dP,bK (by omega)];exact gE|succ j=>simp at hz
   have anf:jV g.hw w e ((eC arr (i*e.size) us).toList.take ((i+1)*e.size)) (xs++[y]) (fps++[fh]):=by rw[rk];exact Cr.append UZ
   have BU:∀b∈fh,b∉fps.flatten:=by intro b gM hm;obtain⟨j,hj,hlj⟩:=hl b hm;rw[RE b gM]at hlj;simp at hlj;omega
   obtain⟨iJ,UK,hf,wO,agU,AJ,xY⟩:=Sk h parts (i+1) (eC arr (i*e.size) us) (xs++[y]) (fps++[fh]) zs (λj i' v' Mb hj=>by have:=hp (j+1) i' v' Mb (by simpa using hj);rwa[show i+(j+1)=i+1+j by omega]at this) (λj i' v' Mb hj=>by have:=hi (j+1) i' v' Mb (by simpa using hj);omega) (by simp[hk]) (by rw[ij,ti,bc];congr 1;omega) anf (by simp only[dV,List.flatten_cons,List.flatten_nil,bV];refine aI.2 ⟨hn,L6,?_⟩;rintro b gM c xg rfl;exact BU b xg gM) (λb gM=>by simp only[dV,List.flatten_cons,List.flatten_nil,bV,ay]at gM;rcases gM with gM|gM;obtain⟨j,hj,hlj⟩:=hl b gM;exact⟨j,by omega,hlj⟩;exact⟨i,by omega,RE b gM⟩) hzs;refine⟨iJ,UK,?_,by rw[wO,ij],by simpa using agU,AJ,xY⟩;rw[cV,Nb (by rw[ahl]) zP gw];exact hf
  cases hb
theorem F4:∀{n:Nat}{l:aw (Nat×Operand)},F3 n l=true->∀j i x,l[j]?=some (i,x)->i=n+j
 |_,[],_,j,i,x,h=>by simp at h
 |n,(m,y)::l,h,0,i,x,hj=>by simp only[F3,ae,aS]at h;simp at hj;rw[<-hj.1];exact h.1
 |n,(m,y)::l,h,j+1,i,x,hj=>by simp only[F3,ae,aS]at h;have:=F4 h.2 j i x (by simpa using hj);omega
theorem I5 {E:Env}(hE:ja P E.ty){o:Oper}{len:Nat}(ho:o.op=.buildSlice T len parts)(h:np C st a w){K:AS->ax R}(hk:lf E o T len parts.toList st K=some r):ma P C o a w K r:=by
 obtain⟨g,hg⟩:=h;unfold lf at hk;split at hk;rename_i e hT;split at hk;rename_i hc;obtain⟨Dr,Mm,hlen⟩:=hc;split at hk;rename_i vs bH rk;split at hk;rename_i xs ann;obtain⟨g',nm,hvl,wN⟩:=hg.eO (parts.toList.map (·.2));rw[rk]at nm hvl;simp only[cA]at nm hvl;obtain⟨te,hu,⟨inf,z,Al,ti,hby,hz,hzc⟩,hsm⟩:=CR hE hT;have hl1:(parts.toList.map (·.1)).length=((parts.toList.map (·.2)).map a.eval).length:=by simp
 have xY:((parts.toList.map (·.2)).map a.eval).length=vs.length:=by rw[hvl];simp
 obtain⟨ps,p1,p2,p3⟩:=aie (parts.toList.map (·.1)) ((parts.toList.map (·.2)).map a.eval) vs hl1 xY;have anx:ps.length=len:=by have:=congrArg List.length p1;simp at this;rw[this,<-Dr];simp
 have ai6:Av e (ps.map λx=>x.2.2.cells)=some xs:=by
  rw[<-ann];congr 1;have:(ps.map λx=>x.2.2.cells)=(ps.map λx=>(x.1,x.2.2)).map (λy=>y.2.cells):=by simp
  rw[this,p2];have h2:((parts.toList.map (·.1)).zip vs).map (λy=>y.2.cells)=(((parts.toList.map (·.1)).zip vs).map Prod.snd).map AV.cells:=by simp
  rw[h2,List.map_snd_zip (by rw[<-xY,<-hl1];exact aU _)]
 have U0:(parts.map λ(i,x)=>(i,a.eval x)).toList=ps.map λx=>(x.1,x.2.1):=by rw[p1];apply cn;intro j;simp[List.zip_eq_zipWith]
 have hzs:z.cells.size=e.size:=by rw[<-oB e,<-hzc];simp
 let aiK:Array Value:=madeCells (if len*e.size=0 then #[] else z.cells) (len*e.size);have ha0:aiK.size=len*e.size:=size_madeCells _ _
 obtain⟨iJ,UK,ab2,wO,Cr,BP,hl'⟩:=Sk nm (e:=e) ps 0 aiK [] [] xs
  (λj i v av hj=>by
   have h1:(ps.map λx=>(x.2.1,x.2.2))[j]?=some (v,av):=by simp[hj]
   rw[p3]at h1;simpa using h1)
  (λj i v av hj=>by
   have h1:(ps.map λx=>(x.1,x.2.1))[j]?=some (i,v):=by simp[hj]
   rw[p1]at h1;rw[List.getElem?_zip_eq_some]at h1;have h2:=h1.1;rw[List.getElem?_map]at h2;cases hq:parts.toList[j]? with|none=>rw[hq]at h2;cases h2|some q=>rw[hq]at h2;simp at h2;have:=F4 Mm j q.1 q.2 hq;omega) rfl (by rw[ha0,anx];simp) (by simpa using jV.nil _ _ _) (by simp) (by simp) ai6
 have hxl:xs.length=len:=by have h1:=Cr.1;rw[Array.length_toList,wO,ha0,cA]at h1;exact(Nat.eq_of_mul_eq_mul_right e.size_pos h1).symm
 have anB:¬(16777216<len*e.size):=by have:len*e.size<=1000*4096:=Nat.mul_le_mul hlen hsm;omega
 have ee:(execOp a.eval o).run P w=.ok (.value (.slice (some ⟨w.heap.size,0,none⟩) len len)) (w.alloc (.cells iJ te)):=by
  have Pe:Instr.fill (λi=>some (i*e.size,e.size)) ((Array.range (len*e.size)).map ((if len*e.size=0 then(#[]:Array Value) else z.cells)[·%(if len*e.size=0 then(#[]:Array Value) else z.cells).size]!)) (parts.map λ(i,x)=>(i,a.eval x)).toList=some iJ:=by rw[U0];exact ab2
  by_cases h0:len*e.size=0;rw[aE h0]at Pe;simp only[execOp,ho,Instr.buildSlice,underlying,Sem.run_bind,run_program,hu,Result.andThen_ok,Sem.run_pure,sizeOf,typeInfo,Al,ti];rw[lZ,aE h0];simp only[Sem.run_pure,Result.andThen_ok,Pe,newRow,Sem.run_bind,run_newObj];rfl;rw[aH h0]at Pe;simp only[execOp,ho,Instr.buildSlice,underlying,Sem.run_bind,run_program,hu,Result.andThen_ok,Sem.run_pure,sizeOf,typeInfo,Al,ti];rw[lZ,aH h0];simp only[zeroValue,typeInfo,Sem.run_bind,run_program,Al,hz,Sem.run_pure,Result.andThen_ok,Pe,newRow,run_newObj];rfl
 refine⟨_,_,_,.inl ee,?_,hk⟩;have agU:jV g'.hw w e (iJ.toList.take (xs.length*e.size)) xs UK:=by rw[bK (by rw[Array.length_toList,wO,ha0,hxl];exact aU _)];simpa using Cr
 have:=nm.K4 o.dst (T:=te) (fr:=(0,0)) (cap:=len) (.inl rfl) (by intro j _;simp) (by rw[wO,ha0]) (by omega) agU BP (λb hb=>by obtain⟨j,hj⟩:=hl' b hb;rw[hj];rfl);rw[hxl]at this;exact this;cases hk;cases hk;cases hk
end Go.Dn
