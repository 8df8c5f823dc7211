import Derived.Test.YtinkcmefgciifaaGreatDnOps5
/- Part 6: structs and slices that are built; append. -/
namespace Go.Dn
open Go.RowKit
variable {P:Program} {C:Ctx} {st:AS} {a:Act} {w:World} {R:Type} {r:R}
variable {parts:Array (Nat×Operand)} {place:Nat->aC (Nat×Nat)} {T:TypeId} {hs:az (Value×AV)}
theorem eX.gi:∀(xs:az Operand){g:Gh}{st:AS}{hs:az (Value×AV)},eX C g st a w hs->
 ∃g',eX C g' (gi st xs).2 a w (hs++(xs.map a.eval).zip (gi st xs).1)/\(gi st xs).1.length=xs.length/\(gi st xs).2.ep=st.ep
 |[],g,st,hs,h=>⟨g,by simpa[Dn.gi]using h,rfl,rfl⟩
 |x::xs,g,st,hs,h=>by obtain⟨g1,h1⟩:=h.take x;obtain⟨g2,h2,hl,Ae⟩:=eX.gi xs h1;refine⟨g2,?_,by simp[Dn.gi,hl],by simp only[Dn.gi];rw[Ae,Vj]⟩;simpa[Dn.gi]using h2
theorem XT {α β:Type}(f:α->Sem β)(gf:α->β)(w:World):∀(l:az α),(∀x∈l,(f x).run P w=.ok (gf x) w)->(l.mapM f).run P w=.ok (l.map gf) w
 |[],_=>by simp
 |x::l,h=>by rw[List.mapM_cons];simp only[Sem.run_bind,h x (by simp),Result.andThen_ok,XT f gf w l (λy hy=>h y (dZ _ hy)),Sem.run_pure,cS]
theorem EN {α β:Type}(f:α->Sem β)(gf:α->β)(w:World)(l:Array α)(h:∀x∈l,(f x).run P w=.ok (gf x) w):(l.mapM f).run P w=.ok (l.map gf) w:=by rw[Array.mapM_eq_mapM_toList,Sem.run_map,XT f gf w l.toList (λx hx=>h x (by simpa using hx))];simp only[Result.andThen_ok,Result.ok.injEq,jV];apply gj;simp
theorem QH (us:jT):∀(arr:Array Value)(off j:Nat),((us.zipIdx j).foldl (λcs (x:Value×Nat)=>cs.setIfInBounds (off+x.2) x.1) arr)=fQ arr (off+j) us:=by induction us with|nil=>intro arr off j;rfl|cons u us ih=>intro arr off j;rw[List.zipIdx_cons,List.foldl_cons,ih];rfl
theorem R0 {cells:Array Value}{i:Nat}{v:Value}{rest:az (Nat×Value)}{off:Nat}{us:jT}(hp:place i=some (off,us.length))(hv:v.cells.toList=us)(iW:off+us.length<=cells.size):Instr.fill place cells ((i,v)::rest)=Instr.fill place (fQ cells off us) rest:=by
 have wq:v.cells.size=us.length:=by rw[<-hv];simp
 rw[Instr.fill,hp];simp only[wq];rw[aI (by simp;omega)];congr 1;have:v.cells=us.toArray:=by apply gj;simpa using hv
 rw[this];have h2:=QH us cells off 0;rw[eE]at h2;rw[<-h2];rw[<-Array.foldl_toList];simp
theorem aff {cs vs:az AC}{off n:Nat}(h:vs.length=n):fD cs off vs=cs.take off++vs++cs.drop (off+n):=by simp only[fD];rw[h]
theorem N1 {g:Gh}(h:eX C g st a w hs){lD:az (Nat×Nat)}(Er:∀i fo n,lD[i]?=some (fo,n)->place i=some (fo,n)):
 ∀(parts:az (Nat×Value×AV))(k:Nat)(arr:Array Value)(zs:az AC)(fp:gk)(cs:az AC),(∀j i v av,parts[j]?=some (i,v,av)->hs[k+j]?=some (v,av))->
  bT (dp C g st w) arr.toList zs fp->fp.Nodup->(∀b∈fp,∃j,j<k/\g.fL b=some (.hand j))->
  ya lD zs (parts.map λx=>(x.1,x.2.2.cells))=some cs->
  ∃kl lT,Instr.fill place arr (parts.map λx=>(x.1,x.2.1))=some kl/\bT (dp C g st w) kl.toList cs lT/\lT.Nodup/\∀b∈lT,∃j,g.fL b=some (.hand j)
 |[],k,arr,zs,fp,cs,_,hr,hn,hl,hb=>by simp[ya]at hb;subst hb;exact⟨arr,fp,rfl,hr,hn,λb hb=>let ⟨j,_,hj⟩:=hl b hb;⟨j,hj⟩⟩
 |(i,v,av)::parts,k,arr,zs,fp,cs,hp,hr,hn,hl,hb=>by
  simp only[cS,ya,eT]at hb;split at hb;rename_i off n Q3;split at hb;rename_i hc;obtain⟨fh,Sa,QK,Wv⟩:=h.hands k v av (by simpa using hp 0 i v av rfl);cases av with
  |xN ts=>simp[AV.cells,AC.J4]at hc
  |val gg vs=>
   simp only[AV.cells]at hc hb;obtain⟨us,gJ,YH⟩:=Sa;have hul:=YH.length;have h1:=YH.oI hc.2.2;have C8:=KB gJ h1;have hal:=hr.length;have ath:arr.size=zs.length:=by simpa using hal
   have iW:off+us.length<=arr.size:=by omega
   have alZ:place i=some (off,us.length):=by rw[Er i off n Q3];congr 2;omega
   obtain⟨f1,f2,f3,rfl,r1,r2,r3⟩:=hr.mid off us.length;have ga:bT (dp C g st w) (fQ arr off us).toList (fD zs off vs) (f1++fh++f3):=by rw[xg us arr off iW,aff hul.symm];exact(r1.append YH).append r3
   have DE:∀b∈fh,b∉f1++f2++f3:=by intro b iB hm;obtain⟨j,hj,hlj⟩:=hl b hm;rw[Wv b iB]at hlj;simp at hlj;omega
   have Eb:=hn;rw[aE]at Eb;have n1:=aO.1 Eb;have n2:=aO.1 n1.2.1;have alV:(f1++fh++f3).Nodup:=by rw[aE];refine aO.2 ⟨n1.1,aO.2 ⟨QK,n2.2.1,?_⟩,?_⟩;rintro b iB c zV rfl;exact DE b iB (by simp[zV]);rintro b iB c zV rfl;rcases ay.1 zV with zV|zV;exact DE b zV (by simp[iB]);exact n1.2.2 b iB b (bm _ zV) rfl
   obtain⟨kl,lT,hf,xZ,asx,hl'⟩:=N1 h Er parts (k+1) (fQ arr off us) (fD zs off vs) (f1++fh++f3) cs (λj i' v' QO hj=>by have:=hp (j+1) i' v' QO (by simpa using hj);rwa[show k+(j+1)=k+1+j by omega]at this) ga alV (λb iB=>by simp only[ay]at iB;rcases iB with(iB|iB)|iB;obtain⟨j,hj,hlj⟩:=hl b (by simp[iB]);exact⟨j,by omega,hlj⟩;exact⟨k,by omega,Wv b iB⟩;obtain⟨j,hj,hlj⟩:=hl b (by simp[iB]);exact⟨j,by omega,hlj⟩) hb;refine⟨kl,lT,?_,xZ,asx,hl'⟩;rw[cS,R0 alZ C8 iW];exact hf
  cases hb;cases hb
theorem am0 {α β γ:Type}:∀(l:az α)(m:az β)(n:az γ),l.length=m.length->m.length=n.length->
 ∃ps:az (α×β×γ),ps.map (λx=>(x.1,x.2.1))=l.zip m/\ps.map (λx=>(x.1,x.2.2))=l.zip n/\ps.map (λx=>(x.2.1,x.2.2))=m.zip n
 |[],[],[],_,_=>⟨[],rfl,rfl,rfl⟩
 |x::l,y::m,z::n,h1,h2=>by obtain⟨ps,p1,p2,p3⟩:=am0 l m n (by simpa using h1) (by simpa using h2);exact⟨(x,y,z)::ps,by simp[p1],by simp[p2],by simp[p3]⟩
 |[],_::_,_,h,_=>by simp at h
 |_::_,[],_,h,_=>by simp at h
 |[],[],_::_,_,h=>by simp at h
 |_::_,_::_,[],_,h=>by simp at h
theorem Zc {E:Env}(hE:kJ P E.ty){o:Oper}(ho:o.op=.build T parts)(h:pT C st a w){K:AS->aC R}(hk:C1 E o T parts.toList st K=some r):ox P C o a w K r:=by
 obtain⟨g,hg⟩:=h;unfold C1 at hk;split at hk;rename_i ct lD hT;split at hk;rename_i vs cc uz;split at hk;rename_i cs hbc;obtain⟨g',pQ,hlen,Ae⟩:=hg.gi (parts.toList.map (·.2));rw[uz]at pQ hlen;simp only[bX]at pQ hlen;have pR:=hE T _ hT;obtain⟨inf,z,DJ,wq,_,hz,hzc⟩:=pR.elem.info;obtain⟨fs,hu,ID⟩:=pR.agg rfl;have alH:=pR.count rfl fs hu;have ajz:(fs.mapM λf=>do pure (f.offset,<-sizeOf f.type):Sem (Array (Nat×Nat))).run P w=.ok (fs.map λf=>(f.offset,P.cellsOf f.type)) w:=by refine EN _ _ w fs (λf hf=>?_);obtain⟨i,hi,rfl⟩:=Array.mem_iff_getElem.1 hf;obtain⟨asO,anN⟩:=alH i fs[i] (Array.getElem?_eq_getElem hi);simp[sizeOf,typeInfo,anN,Program.cellsOf]
 have Er:∀(i fo n:Nat),lD[i]?=some (fo,n)->(λ(i:Nat)=>(fs.map λf=>(f.offset,P.cellsOf f.type))[i]?) i=some (fo,n):=by intro i fo n hi;obtain⟨fd,hfd,h1,_,asO,h2,h3⟩:=ID i fo n hi;simp only[Array.getElem?_map,hfd,dL,h1,Program.cellsOf,h2,h3,gR]
 have hzero:bT (dp C g' cc w) z.cells.toList (cellsOf ct (.own none) ct.zero) []:=by rw[hzc];exact BJ (GI _ _ _)
 have hl1:(parts.toList.map (·.1)).length=((parts.toList.map (·.2)).map a.eval).length:=by simp
 have BD:((parts.toList.map (·.2)).map a.eval).length=vs.length:=by rw[hlen];simp
 obtain⟨ps,p1,p2,p3⟩:=am0 (parts.toList.map (·.1)) ((parts.toList.map (·.2)).map a.eval) vs hl1 BD;have ash:ya lD (cellsOf ct (.own none) ct.zero) (ps.map λx=>(x.1,x.2.2.cells))=some cs:=by
  rw[<-hbc];congr 1;have:(ps.map λx=>(x.1,x.2.2.cells))=(ps.map λx=>(x.1,x.2.2)).map (λy=>(y.1,y.2.cells)):=by simp
  rw[this,p2,List.zip_map_right];simp
 obtain⟨kl,lT,agV,ga,Eb,hl'⟩:=N1 pQ (place:=λ(i:Nat)=>(fs.map λf=>(f.offset,P.cellsOf f.type))[i]?) Er ps 0 z.cells _ [] cs
  (λj i v av hj=>by
   have h1:(ps.map λx=>(x.2.1,x.2.2))[j]?=some (v,av):=by simp[hj]
   rw[p3]at h1;simpa using h1) hzero (by simp) (by simp) ash
 have Z8:(parts.map λ(i,x)=>(i,a.eval x)).toList=ps.map λx=>(x.1,x.2.1):=by rw[p1];apply de;intro j;simp[List.zip_eq_zipWith]
 have fG:(execOp a.eval o).run P w=.ok (.value (.agg kl)) w:=by simp only[execOp,ho,Instr.build,zeroValue,typeInfo,underlying,Sem.run_bind,run_program,DJ,hz,hu,Result.andThen_ok,Sem.run_pure,ajz,Z8,agV]
 refine⟨.agg kl,w,_,.inl fG,?_,hk⟩;exact pQ.PY o.dst rfl rfl rfl rfl (λt ht=>⟨ht,rfl⟩) (Fr.refl _ _) (λ_ _ _ _=>rfl) (λ_ _ _ ho hu=>⟨ho,hu⟩) ⟨kl.toList,by simp[Cut],ga⟩ Eb (λb hb=>by obtain⟨j,hj⟩:=hl' b hb;exact⟨(pQ.iw b _ hj).1,.inl (by rw[hj];rfl)⟩);cases hk;cases hk
theorem Xb {g:Gh}(h:eX C g st a w hs){e:CT}:
 ∀(parts:az (Nat×Value×AV))(k:Nat)(arr:Array Value)(xs:az e.D)(fps:az gk)(ys:az e.D),(∀j i v av,parts[j]?=some (i,v,av)->hs[k+j]?=some (v,av))->
  (∀j i v av,parts[j]?=some (i,v,av)->i=k+j)->xs.length=k->arr.size=(k+parts.length)*e.size->
  md g.hw w e (arr.toList.take (k*e.size)) xs fps->fps.flatten.Nodup->(∀b∈fps.flatten,∃j,j<k/\g.fL b=some (.hand j))->
  DR e (parts.map λx=>x.2.2.cells)=some ys->
  ∃kl ZV,Instr.fill (λi=>some (i*e.size,e.size)) arr (parts.map λx=>(x.1,x.2.1))=some kl/\kl.size=arr.size/\md g.hw w e kl.toList (xs++ys) ZV/\ZV.flatten.Nodup/\∀b∈ZV.flatten,∃j,g.fL b=some (.hand j)
 |[],k,arr,xs,fps,ys,_,_,hk,wq,FV,hn,hl,hb=>by simp[DR]at hb;subst hb;have:arr.toList.take (k*e.size)=arr.toList:=bW (by simp at wq⊢;omega);rw[this]at FV;exact⟨arr,fps,rfl,rfl,by simpa using FV,hn,λb hb=>let ⟨j,_,hj⟩:=hl b hb;⟨j,hj⟩⟩
 |(i,v,av)::parts,k,arr,xs,fps,ys,hp,hi,hk,wq,FV,hn,hl,hb=>by
  simp only[cS,DR]at hb;split at hb;rename_i y hof;simp only[aZ]at hb;obtain⟨zs,hzs,hyz⟩:=hb;simp at hyz;subst hyz;have hik:i=k:=by simpa using hi 0 i v av rfl
  subst hik;obtain⟨fh,Sa,QK,Wv⟩:=h.hands i v av (by simpa using hp 0 i v av rfl);cases av with
  |xN ts=>exfalso;revert hof;simp only[AV.cells];intro hof;have:=zI (c:=dp C g st w) (vs:=[undef]) (cs:=[.bot]) (fp:=[]) ⟨[],[],rfl,rfl,rfl⟩ hof;obtain⟨f1,f2,_,jl,_⟩:=this;have h1:=gG.oI jl undef (by cases hz:e.size with|zero=>have:=e.size_pos;omega|succ n=>simp);cases h1
  |val gg vs=>
   simp only[AV.cells]at hof;obtain⟨us,gJ,YH⟩:=Sa;obtain⟨f1,f2,asp,jl,vR⟩:=zI YH hof;have Wq:us.drop e.size=[]/\f2=[]:=by cases hd:us.drop e.size with|nil=>rw[hd]at vR;exact⟨rfl,vR⟩|cons p q=>rw[hd]at vR;exact vR.elim
   have hul:us.length<=e.size:=by have:=Wq.1;rw[List.drop_eq_nil_iff]at this;exact this
   rw[bW hul]at jl;have al5:us.length=e.size:=gG.length jl;have h1:=gG.oI jl;have C8:=KB gJ h1;have adz:arr.size=i*e.size+(parts.length+1)*e.size:=by rw[wq,aV,df]
   have hpe:e.size<=(parts.length+1)*e.size:=by rw[df,gB];omega
   have iW:i*e.size+us.length<=arr.size:=by omega
   have QX:fh=f1:=by rw[asp,Wq.2,bB]
   subst QX;have uz:(fQ arr (i*e.size) us).toList.take ((i+1)*e.size)=arr.toList.take (i*e.size)++us:=by
    rw[xg us arr _ iW];have hl1:(arr.toList.take (i*e.size)++us).length=(i+1)*e.size:=by rw[aj,aY,df,gB,al5];simp;omega
    rw[List.take_append_of_le_length (by omega),bW (by omega)]
   have Z7:md g.hw w e us [y] [fh]:=by refine⟨by simp[al5],rfl,λj z f hz hf=>?_⟩;cases j with|zero=>simp at hz hf;subst hz;subst hf;rw[Nat.zero_mul,eI,bW (by omega)];exact jl|succ j=>simp at hz
   have asm:md g.hw w e ((fQ arr (i*e.size) us).toList.take ((i+1)*e.size)) (xs++[y]) (fps++[fh]):=by rw[uz];exact FV.append Z7
   have DE:∀b∈fh,b∉fps.flatten:=by intro b iB hm;obtain⟨j,hj,hlj⟩:=hl b hm;rw[Wv b iB]at hlj;simp at hlj;omega
   obtain⟨kl,ZV,hf,Af,alI,Fv,BD⟩:=Xb h parts (i+1) (fQ arr (i*e.size) us) (xs++[y]) (fps++[fh]) zs (λj i' v' QO hj=>by have:=hp (j+1) i' v' QO (by simpa using hj);rwa[show i+(j+1)=i+1+j by omega]at this) (λj i' v' QO hj=>by have:=hi (j+1) i' v' QO (by simpa using hj);omega) (by simp[hk]) (by rw[jN,wq,aV];congr 1;omega) asm (by simp only[eJ,List.flatten_cons,List.flatten_nil,bB];refine aO.2 ⟨hn,QK,?_⟩;rintro b iB c zV rfl;exact DE b zV iB) (λb iB=>by simp only[eJ,List.flatten_cons,List.flatten_nil,bB,ay]at iB;rcases iB with iB|iB;obtain⟨j,hj,hlj⟩:=hl b iB;exact⟨j,by omega,hlj⟩;exact⟨i,by omega,Wv b iB⟩) hzs;refine⟨kl,ZV,?_,by rw[Af,jN],by simpa using alI,Fv,BD⟩;rw[cS,R0 (by rw[al5]) C8 iW];exact hf
  cases hb
theorem Jx:∀{n:Nat}{l:az (Nat×Operand)},Jw n l=true->∀j i x,l[j]?=some (i,x)->i=n+j
 |_,[],_,j,i,x,h=>by simp at h
 |n,(m,y)::l,h,0,i,x,hj=>by simp only[Jw,ae,bn]at h;simp at hj;rw[<-hj.1];exact h.1
 |n,(m,y)::l,h,j+1,i,x,hj=>by simp only[Jw,ae,bn]at h;have:=Jx h.2 j i x (by simpa using hj);omega
theorem MW {E:Env}(hE:kJ P E.ty){o:Oper}{len:Nat}(ho:o.op=.buildSlice T len parts)(h:pT C st a w){K:AS->aC R}(hk:nt E o T len parts.toList st K=some r):ox P C o a w K r:=by
 obtain⟨g,hg⟩:=h;unfold nt at hk;split at hk;rename_i e hT;split at hk;rename_i hc;obtain⟨Er,Q1,hlen⟩:=hc;split at hk;rename_i vs cc uz;split at hk;rename_i xs asu;obtain⟨g',pQ,hvl,Ae⟩:=hg.gi (parts.toList.map (·.2));rw[uz]at pQ hvl;simp only[bX]at pQ hvl;obtain⟨te,hu,⟨inf,z,DJ,wq,hby,hz,hzc⟩,hsm⟩:=Gq hE hT;have hl1:(parts.toList.map (·.1)).length=((parts.toList.map (·.2)).map a.eval).length:=by simp
 have BD:((parts.toList.map (·.2)).map a.eval).length=vs.length:=by rw[hvl];simp
 obtain⟨ps,p1,p2,p3⟩:=am0 (parts.toList.map (·.1)) ((parts.toList.map (·.2)).map a.eval) vs hl1 BD;have asE:ps.length=len:=by have:=congrArg List.length p1;simp at this;rw[this,<-Er];simp
 have anT:DR e (ps.map λx=>x.2.2.cells)=some xs:=by
  rw[<-asu];congr 1;have:(ps.map λx=>x.2.2.cells)=(ps.map λx=>(x.1,x.2.2)).map (λy=>y.2.cells):=by simp
  rw[this,p2];have h2:((parts.toList.map (·.1)).zip vs).map (λy=>y.2.cells)=(((parts.toList.map (·.1)).zip vs).map Prod.snd).map AV.cells:=by simp
  rw[h2,List.map_snd_zip (by rw[<-BD,<-hl1];exact aX _)]
 have Z8:(parts.map λ(i,x)=>(i,a.eval x)).toList=ps.map λx=>(x.1,x.2.1):=by rw[p1];apply de;intro j;simp[List.zip_eq_zipWith]
 have hzs:z.cells.size=e.size:=by rw[<-rh e,<-hzc];simp
 let anx:Array Value:=madeCells (if len*e.size=0 then #[] else z.cells) (len*e.size);have ha0:anx.size=len*e.size:=size_madeCells _ _
 obtain⟨kl,ZV,agV,Af,FV,Eb,hl'⟩:=Xb pQ (e:=e) ps 0 anx [] [] xs
  (λj i v av hj=>by
   have h1:(ps.map λx=>(x.2.1,x.2.2))[j]?=some (v,av):=by simp[hj]
   rw[p3]at h1;simpa using h1)
  (λj i v av hj=>by
   have h1:(ps.map λx=>(x.1,x.2.1))[j]?=some (i,v):=by simp[hj]
   rw[p1]at h1;rw[List.getElem?_zip_eq_some]at h1;have h2:=h1.1;rw[fA]at h2;cases hq:parts.toList[j]? with|none=>rw[hq]at h2;cases h2|some q=>rw[hq]at h2;simp at h2;have:=Jx Q1 j q.1 q.2 hq;omega) rfl (by rw[ha0,asE];simp) (by simpa using md.nil _ _ _) (by simp) (by simp) anT
 have hxl:xs.length=len:=by have h1:=FV.1;rw[Array.length_toList,Af,ha0,bX]at h1;exact(Nat.eq_of_mul_eq_mul_right e.size_pos h1).symm
 have asH:¬(16777216<len*e.size):=by have:len*e.size<=1000*4096:=Nat.mul_le_mul hlen hsm;omega
 have fG:(execOp a.eval o).run P w=.ok (.value (.slice (some ⟨w.heap.size,0,none⟩) len len)) (w.alloc (.cells kl te)):=by
  have Uk:Instr.fill (λi=>some (i*e.size,e.size)) ((Array.range (len*e.size)).map ((if len*e.size=0 then(#[]:Array Value) else z.cells)[·%(if len*e.size=0 then(#[]:Array Value) else z.cells).size]!)) (parts.map λ(i,x)=>(i,a.eval x)).toList=some kl:=by rw[Z8];exact agV
  by_cases h0:len*e.size=0;rw[aJ h0]at Uk;simp only[execOp,ho,Instr.buildSlice,underlying,Sem.run_bind,run_program,hu,Result.andThen_ok,Sem.run_pure,sizeOf,typeInfo,DJ,wq];rw[kz,aJ h0];simp only[Sem.run_pure,Result.andThen_ok,Uk,newRow,Sem.run_bind,run_newObj];rfl;rw[aI h0]at Uk;simp only[execOp,ho,Instr.buildSlice,underlying,Sem.run_bind,run_program,hu,Result.andThen_ok,Sem.run_pure,sizeOf,typeInfo,DJ,wq];rw[kz,aI h0];simp only[zeroValue,typeInfo,Sem.run_bind,run_program,DJ,hz,Sem.run_pure,Result.andThen_ok,Uk,newRow,run_newObj];rfl
 refine⟨_,_,_,.inl fG,?_,hk⟩;have alI:md g'.hw w e (kl.toList.take (xs.length*e.size)) xs ZV:=by rw[bW (by rw[Array.length_toList,Af,ha0,hxl];exact aX _)];simpa using FV
 have:=pQ.PC o.dst (T:=te) (fr:=(0,0)) (cap:=len) (.inl rfl) (by intro j _;simp) (by rw[Af,ha0]) (by omega) alI Eb (λb hb=>by obtain⟨j,hj⟩:=hl' b hb;rw[hj];rfl);rw[hxl]at this;exact this;cases hk;cases hk;cases hk
end Go.Dn
