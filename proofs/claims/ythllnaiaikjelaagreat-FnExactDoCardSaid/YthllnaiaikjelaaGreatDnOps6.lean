import Derived.Test.YthllnaiaikjelaaGreatDnOps5
/- Part 6: structs and slices that are built; append. -/
namespace Go.Dn
open Go.RowKit
variable {P:Program} {C:Ctx} {st:AS} {a:Act} {w:World} {R:Type} {r:R}
variable {parts:Array (Nat×Operand)} {place:Nat->au (Nat×Nat)} {T:TypeId} {hs:ar (Value×AV)}
theorem dM.fj:∀(xs:ar Operand){g:Gh}{st:AS}{hs:ar (Value×AV)},dM C g st a w hs->
 ∃g',dM C g' (fj st xs).2 a w (hs++(xs.map a.eval).zip (fj st xs).1)/\(fj st xs).1.length=xs.length/\(fj st xs).2.ep=st.ep
 |[],g,st,hs,h=>⟨g,by simpa[Dn.fj]using h,rfl,rfl⟩
 |x::xs,g,st,hs,h=>by obtain⟨g1,h1⟩:=h.take x;obtain⟨g2,h2,hl,Ck⟩:=dM.fj xs h1;refine⟨g2,?_,by simp[Dn.fj,hl],by simp only[Dn.fj];rw[Ck,aaY]⟩;simpa[Dn.fj]using h2
theorem adn {α β:Type}(f:α->Sem β)(gf:α->β)(w:World):∀(l:ar α),(∀x∈l,(f x).run P w=.ok (gf x) w)->(l.mapM f).run P w=.ok (l.map gf) w
 |[],_=>by simp
 |x::l,h=>by rw[List.mapM_cons];simp only[Sem.run_bind,h x (by simp),Result.andThen_ok,adn f gf w l (λy hy=>h y (dJ _ hy)),Sem.run_pure,ei]
theorem Km {α β:Type}(f:α->Sem β)(gf:α->β)(w:World)(l:Array α)(h:∀x∈l,(f x).run P w=.ok (gf x) w):(l.mapM f).run P w=.ok (l.map gf) w:=by rw[Array.mapM_eq_mapM_toList,Sem.run_map,adn f gf w l.toList (λx hx=>h x (by simpa using hx))];simp only[Result.andThen_ok,Result.ok.injEq,iV];apply eO;simp
theorem WD (us:iU):∀(arr:Array Value)(off j:Nat),((us.zipIdx j).foldl (λcs (x:Value×Nat)=>cs.setIfInBounds (off+x.2) x.1) arr)=eX arr (off+j) us:=by induction us with|nil=>intro arr off j;rfl|cons u us ih=>intro arr off j;rw[List.zipIdx_cons,List.foldl_cons,ih];rfl
theorem XT {cells:Array Value}{i:Nat}{v:Value}{rest:ar (Nat×Value)}{off:Nat}{us:iU}(hp:place i=some (off,us.length))(hv:v.cells.toList=us)(iy:off+us.length<=cells.size):Instr.fill place cells ((i,v)::rest)=Instr.fill place (eX cells off us) rest:=by
 have xp:v.cells.size=us.length:=by rw[<-hv];simp
 rw[Instr.fill,hp];simp only[xp];rw[aK (by simp;omega)];congr 1;have:v.cells=us.toArray:=by apply eO;simpa using hv
 rw[this];have h2:=WD us cells off 0;rw[dW]at h2;rw[<-h2];rw[<-Array.foldl_toList];simp
theorem akq {cs vs:ar AC}{off n:Nat}(h:vs.length=n):du cs off vs=cs.take off++vs++cs.drop (off+n):=by simp only[du];rw[h]
theorem Ur {g:Gh}(h:dM C g st a w hs){lA:ar (Nat×Nat)}(Hr:∀i fo n,lA[i]?=some (fo,n)->place i=some (fo,n)):
 ∀(parts:ar (Nat×Value×AV))(k:Nat)(arr:Array Value)(zs:ar AC)(fp:ec)(cs:ar AC),(∀j i v av,parts[j]?=some (i,v,av)->hs[k+j]?=some (v,av))->
  bD (cO C g st w) arr.toList zs fp->fp.Nodup->(∀b∈fp,∃j,j<k/\g.eo b=some (.hand j))->
  Cn lA zs (parts.map λx=>(x.1,x.2.2.cells))=some cs->
  ∃jS jg,Instr.fill place arr (parts.map λx=>(x.1,x.2.1))=some jS/\bD (cO C g st w) jS.toList cs jg/\jg.Nodup/\∀b∈jg,∃j,g.eo b=some (.hand j)
 |[],k,arr,zs,fp,cs,_,hr,hn,hl,hb=>by simp[Cn]at hb;subst hb;exact⟨arr,fp,rfl,hr,hn,λb hb=>let ⟨j,_,hj⟩:=hl b hb;⟨j,hj⟩⟩
 |(i,v,av)::parts,k,arr,zs,fp,cs,hp,hr,hn,hl,hb=>by
  simp only[ei,Cn,dV]at hb;split at hb;rename_i off n WU;split at hb;rename_i hc;obtain⟨fh,X3,Sy,hlh⟩:=h.hands k v av (by simpa using hp 0 i v av rfl);cases av with
  |zU ts=>simp[AV.cells,AC.Qy]at hc
  |val gg vs=>
   simp only[AV.cells]at hc hb;obtain⟨us,eM,hrh⟩:=X3;have hul:=hrh.length;have h1:=hrh.pt hc.2.2;have Ig:=Rd eM h1;have hal:=hr.length;have aAj:arr.size=zs.length:=by simpa using hal
   have iy:off+us.length<=arr.size:=by omega
   have aqg:place i=some (off,us.length):=by rw[Hr i off n WU];congr 2;omega
   obtain⟨f1,f2,f3,rfl,r1,r2,r3⟩:=hr.mid off us.length;have dY:bD (cO C g st w) (eX arr off us).toList (du zs off vs) (f1++fh++f3):=by rw[BC us arr off iy,akq hul.symm];exact(r1.append hrh).append r3
   have EG:∀b∈fh,b∉f1++f2++f3:=by intro b ib hm;obtain⟨j,hj,hlj⟩:=hl b hm;rw[hlh b ib]at hlj;simp at hlj;omega
   have Ff:=hn;rw[aW]at Ff;have n1:=aG.1 Ff;have n2:=aG.1 n1.2.1;have aqc:(f1++fh++f3).Nodup:=by rw[aW];refine aG.2 ⟨n1.1,aG.2 ⟨Sy,n2.2.1,?_⟩,?_⟩;rintro b ib c IB rfl;exact EG b ib (by simp[IB]);rintro b ib c IB rfl;rcases aA.1 IB with IB|IB;exact EG b IB (by simp[ib]);exact n1.2.2 b ib b (bh _ IB) rfl
   obtain⟨jS,jg,hf,zx,aor,hl'⟩:=Ur h Hr parts (k+1) (eX arr off us) (du zs off vs) (f1++fh++f3) cs (λj i' v' WL hj=>by have:=hp (j+1) i' v' WL (by simpa using hj);rwa[show k+(j+1)=k+1+j by omega]at this) dY aqc (λb ib=>by simp only[aA]at ib;rcases ib with(ib|ib)|ib;obtain⟨j,hj,hlj⟩:=hl b (by simp[ib]);exact⟨j,by omega,hlj⟩;exact⟨k,by omega,hlh b ib⟩;obtain⟨j,hj,hlj⟩:=hl b (by simp[ib]);exact⟨j,by omega,hlj⟩) hb;refine⟨jS,jg,?_,zx,aor,hl'⟩;rw[ei,XT aqg Ig iy];exact hf
  cases hb;cases hb
theorem aqI {α β γ:Type}:∀(l:ar α)(m:ar β)(n:ar γ),l.length=m.length->m.length=n.length->
 ∃ps:ar (α×β×γ),ps.map (λx=>(x.1,x.2.1))=l.zip m/\ps.map (λx=>(x.1,x.2.2))=l.zip n/\ps.map (λx=>(x.2.1,x.2.2))=m.zip n
 |[],[],[],_,_=>⟨[],rfl,rfl,rfl⟩
 |x::l,y::m,z::n,h1,h2=>by obtain⟨ps,p1,p2,p3⟩:=aqI l m n (by simpa using h1) (by simpa using h2);exact⟨(x,y,z)::ps,by simp[p1],by simp[p2],by simp[p3]⟩
 |[],_::_,_,h,_=>by simp at h
 |_::_,[],_,h,_=>by simp at h
 |[],[],_::_,_,h=>by simp at h
 |_::_,_::_,[],_,h=>by simp at h
theorem aeG {E:Env}(hE:kA P E.ty){o:Oper}(ho:o.op=.build T parts)(h:pF C st a w){K:AS->au R}(hk:Ib E o T parts.toList st K=some r):oX P C o a w K r:=by
 obtain⟨g,hg⟩:=h;unfold Ib at hk;split at hk;rename_i ct lA hT;split at hk;rename_i vs st' xv;split at hk;rename_i cs hbc;obtain⟨g',oV,hlen,Ck⟩:=hg.fj (parts.toList.map (·.2));rw[xv]at oV hlen;simp only[bE]at oV hlen;have kX:=hE T _ hT;obtain⟨inf,z,IT,xp,_,hz,hzc⟩:=kX.elem.info;obtain⟨fs,hu,NC⟩:=kX.agg rfl;have apY:=kX.count rfl fs hu;have aos:(fs.mapM λf=>do pure (f.offset,<-sizeOf f.type):Sem (Array (Nat×Nat))).run P w=.ok (fs.map λf=>(f.offset,P.cellsOf f.type)) w:=by refine Km _ _ w fs (λf hf=>?_);obtain⟨i,hi,rfl⟩:=Array.mem_iff_getElem.1 hf;obtain⟨az1,ara⟩:=apY i fs[i] (Array.getElem?_eq_getElem hi);simp[sizeOf,typeInfo,ara,Program.cellsOf]
 have Hr:∀(i fo n:Nat),lA[i]?=some (fo,n)->(λ(i:Nat)=>(fs.map λf=>(f.offset,P.cellsOf f.type))[i]?) i=some (fo,n):=by intro i fo n hi;obtain⟨fd,hfd,h1,_,az1,h2,h3⟩:=NC i fo n hi;simp only[Array.getElem?_map,hfd,dz,h1,Program.cellsOf,h2,h3,fT]
 have hzero:bD (cO C g' st' w) z.cells.toList (cellsOf ct (.own none) ct.zero) []:=by rw[hzc];exact wz (MM _ _ _)
 have hl1:(parts.toList.map (·.1)).length=((parts.toList.map (·.2)).map a.eval).length:=by simp
 have EH:((parts.toList.map (·.2)).map a.eval).length=vs.length:=by rw[hlen];simp
 obtain⟨ps,p1,p2,p3⟩:=aqI (parts.toList.map (·.1)) ((parts.toList.map (·.2)).map a.eval) vs hl1 EH;have azt:Cn lA (cellsOf ct (.own none) ct.zero) (ps.map λx=>(x.1,x.2.2.cells))=some cs:=by
  rw[<-hbc];congr 1;have:(ps.map λx=>(x.1,x.2.2.cells))=(ps.map λx=>(x.1,x.2.2)).map (λy=>(y.1,y.2.cells)):=by simp
  rw[this,p2,List.zip_map_right];simp
 obtain⟨jS,jg,alL,dY,Ff,hl'⟩:=Ur oV (place:=λ(i:Nat)=>(fs.map λf=>(f.offset,P.cellsOf f.type))[i]?) Hr ps 0 z.cells _ [] cs
  (λj i v av hj=>by
   have h1:(ps.map λx=>(x.2.1,x.2.2))[j]?=some (v,av):=by simp[hj]
   rw[p3]at h1;simpa using h1) hzero (by simp) (by simp) azt
 have afe:(parts.map λ(i,x)=>(i,a.eval x)).toList=ps.map λx=>(x.1,x.2.1):=by rw[p1];apply cU;intro j;simp[List.zip_eq_zipWith]
 have ej:(execOp a.eval o).run P w=.ok (.value (.agg jS)) w:=by simp only[execOp,ho,Instr.build,zeroValue,typeInfo,underlying,Sem.run_bind,run_program,IT,hz,hu,Result.andThen_ok,Sem.run_pure,aos,afe,alL]
 refine⟨.agg jS,w,_,.inl ej,?_,hk⟩;exact oV.VN o.dst rfl rfl rfl rfl (λt ht=>⟨ht,rfl⟩) (Fr.refl _ _) (λ_ _ _ _=>rfl) (λ_ _ _ ho hu=>⟨ho,hu⟩) ⟨jS.toList,by simp[Cut],dY⟩ Ff (λb hb=>by obtain⟨j,hj⟩:=hl' b hb;exact⟨(oV.fV b _ hj).1,.inl (by rw[hj];rfl)⟩);cases hk;cases hk
theorem acG {g:Gh}(h:dM C g st a w hs){e:CT}:
 ∀(parts:ar (Nat×Value×AV))(k:Nat)(arr:Array Value)(xs:ar e.D)(fps:ar ec)(ys:ar e.D),(∀j i v av,parts[j]?=some (i,v,av)->hs[k+j]?=some (v,av))->
  (∀j i v av,parts[j]?=some (i,v,av)->i=k+j)->xs.length=k->arr.size=(k+parts.length)*e.size->
  me g.hw w e (arr.toList.take (k*e.size)) xs fps->fps.flatten.Nodup->(∀b∈fps.flatten,∃j,j<k/\g.eo b=some (.hand j))->
  I2 e (parts.map λx=>x.2.2.cells)=some ys->
  ∃jS ae7,Instr.fill (λi=>some (i*e.size,e.size)) arr (parts.map λx=>(x.1,x.2.1))=some jS/\jS.size=arr.size/\me g.hw w e jS.toList (xs++ys) ae7/\ae7.flatten.Nodup/\∀b∈ae7.flatten,∃j,g.eo b=some (.hand j)
 |[],k,arr,xs,fps,ys,_,_,hk,xp,LW,hn,hl,hb=>by simp[I2]at hb;subst hb;have:arr.toList.take (k*e.size)=arr.toList:=bL (by simp at xp⊢;omega);rw[this]at LW;exact⟨arr,fps,rfl,rfl,by simpa using LW,hn,λb hb=>let ⟨j,_,hj⟩:=hl b hb;⟨j,hj⟩⟩
 |(i,v,av)::parts,k,arr,xs,fps,ys,hp,hi,hk,xp,LW,hn,hl,hb=>by
  simp only[ei,I2]at hb;split at hb;rename_i y hof;simp only[aX]at hb;obtain⟨zs,hzs,hyz⟩:=hb;simp at hyz;subst hyz;have hik:i=k:=by simpa using hi 0 i v av rfl
  subst hik;obtain⟨fh,X3,Sy,hlh⟩:=h.hands i v av (by simpa using hp 0 i v av rfl);cases av with
  |zU ts=>exfalso;revert hof;simp only[AV.cells];intro hof;have:=rb (c:=cO C g st w) (vs:=[undef]) (cs:=[.bot]) (fp:=[]) ⟨[],[],rfl,rfl,rfl⟩ hof;obtain⟨f1,f2,_,fA,_⟩:=this;have h1:=eS.pt fA undef (by cases hz:e.size with|zero=>have:=e.size_pos;omega|succ n=>simp);cases h1
  |val gg vs=>
   simp only[AV.cells]at hof;obtain⟨us,eM,hrh⟩:=X3;obtain⟨f1,f2,azB,fA,kH⟩:=rb hrh hof;have ab1:us.drop e.size=[]/\f2=[]:=by cases hd:us.drop e.size with|nil=>rw[hd]at kH;exact⟨rfl,kH⟩|cons p q=>rw[hd]at kH;exact kH.elim
   have hul:us.length<=e.size:=by have:=ab1.1;rw[List.drop_eq_nil_iff]at this;exact this
   rw[bL hul]at fA;have aqm:us.length=e.size:=eS.length fA;have h1:=eS.pt fA;have Ig:=Rd eM h1;have aiP:arr.size=i*e.size+(parts.length+1)*e.size:=by rw[xp,bH,cw]
   have hpe:e.size<=(parts.length+1)*e.size:=by rw[cw,eF];omega
   have iy:i*e.size+us.length<=arr.size:=by omega
   have WS:fh=f1:=by rw[azB,ab1.2,bC]
   subst WS;have xv:(eX arr (i*e.size) us).toList.take ((i+1)*e.size)=arr.toList.take (i*e.size)++us:=by
    rw[BC us arr _ iy];have hl1:(arr.toList.take (i*e.size)++us).length=(i+1)*e.size:=by rw[ay,bm,cw,eF,aqm];simp;omega
    rw[List.take_append_of_le_length (by omega),bL (by omega)]
   have afd:me g.hw w e us [y] [fh]:=by refine⟨by simp[aqm],rfl,λj z f hz hf=>?_⟩;cases j with|zero=>simp at hz hf;subst hz;subst hf;rw[Nat.zero_mul,fI,bL (by omega)];exact fA|succ j=>simp at hz
   have azy:me g.hw w e ((eX arr (i*e.size) us).toList.take ((i+1)*e.size)) (xs++[y]) (fps++[fh]):=by rw[xv];exact LW.append afd
   have EG:∀b∈fh,b∉fps.flatten:=by intro b ib hm;obtain⟨j,hj,hlj⟩:=hl b hm;rw[hlh b ib]at hlj;simp at hlj;omega
   obtain⟨jS,ae7,hf,yk,apZ,C1,EH⟩:=acG h parts (i+1) (eX arr (i*e.size) us) (xs++[y]) (fps++[fh]) zs (λj i' v' WL hj=>by have:=hp (j+1) i' v' WL (by simpa using hj);rwa[show i+(j+1)=i+1+j by omega]at this) (λj i' v' WL hj=>by have:=hi (j+1) i' v' WL (by simpa using hj);omega) (by simp[hk]) (by rw[jq,xp,bH];congr 1;omega) azy (by simp only[ew,List.flatten_cons,List.flatten_nil,bC];refine aG.2 ⟨hn,Sy,?_⟩;rintro b ib c IB rfl;exact EG b IB ib) (λb ib=>by simp only[ew,List.flatten_cons,List.flatten_nil,bC,aA]at ib;rcases ib with ib|ib;obtain⟨j,hj,hlj⟩:=hl b ib;exact⟨j,by omega,hlj⟩;exact⟨i,by omega,hlh b ib⟩) hzs;refine⟨jS,ae7,?_,by rw[yk,jq],by simpa using apZ,C1,EH⟩;rw[ei,XT (by rw[aqm]) Ig iy];exact hf
  cases hb
theorem Qb:∀{n:Nat}{l:ar (Nat×Operand)},Qa n l=true->∀j i x,l[j]?=some (i,x)->i=n+j
 |_,[],_,j,i,x,h=>by simp at h
 |n,(m,y)::l,h,0,i,x,hj=>by simp only[Qa,ah,bn]at h;simp at hj;rw[<-hj.1];exact h.1
 |n,(m,y)::l,h,j+1,i,x,hj=>by simp only[Qa,ah,bn]at h;have:=Qb h.2 j i x (by simpa using hj);omega
theorem Th {E:Env}(hE:kA P E.ty){o:Oper}{len:Nat}(ho:o.op=.buildSlice T len parts)(h:pF C st a w){K:AS->au R}(hk:nH E o T len parts.toList st K=some r):oX P C o a w K r:=by
 obtain⟨g,hg⟩:=h;unfold nH at hk;split at hk;rename_i e hT;split at hk;rename_i hc;obtain⟨Hr,PJ,hlen⟩:=hc;split at hk;rename_i vs st' xv;split at hk;rename_i xs azG;obtain⟨g',oV,hvl,Ck⟩:=hg.fj (parts.toList.map (·.2));rw[xv]at oV hvl;simp only[bE]at oV hvl;obtain⟨te,hu,⟨inf,z,IT,xp,hby,hz,hzc⟩,hsm⟩:=Mu hE hT;have hl1:(parts.toList.map (·.1)).length=((parts.toList.map (·.2)).map a.eval).length:=by simp
 have EH:((parts.toList.map (·.2)).map a.eval).length=vs.length:=by rw[hvl];simp
 obtain⟨ps,p1,p2,p3⟩:=aqI (parts.toList.map (·.1)) ((parts.toList.map (·.2)).map a.eval) vs hl1 EH;have azS:ps.length=len:=by have:=congrArg List.length p1;simp at this;rw[this,<-Hr];simp
 have arh:I2 e (ps.map λx=>x.2.2.cells)=some xs:=by
  rw[<-azG];congr 1;have:(ps.map λx=>x.2.2.cells)=(ps.map λx=>(x.1,x.2.2)).map (λy=>y.2.cells):=by simp
  rw[this,p2];have h2:((parts.toList.map (·.1)).zip vs).map (λy=>y.2.cells)=(((parts.toList.map (·.1)).zip vs).map Prod.snd).map AV.cells:=by simp
  rw[h2,List.map_snd_zip (by rw[<-EH,<-hl1];exact ba _)]
 have afe:(parts.map λ(i,x)=>(i,a.eval x)).toList=ps.map λx=>(x.1,x.2.1):=by rw[p1];apply cU;intro j;simp[List.zip_eq_zipWith]
 have hzs:z.cells.size=e.size:=by rw[<-sL e,<-hzc];simp
 let aqW:Array Value:=madeCells (if len*e.size=0 then #[] else z.cells) (len*e.size);have ha0:aqW.size=len*e.size:=size_madeCells _ _
 obtain⟨jS,ae7,alL,yk,LW,Ff,hl'⟩:=acG oV (e:=e) ps 0 aqW [] [] xs
  (λj i v av hj=>by
   have h1:(ps.map λx=>(x.2.1,x.2.2))[j]?=some (v,av):=by simp[hj]
   rw[p3]at h1;simpa using h1)
  (λj i v av hj=>by
   have h1:(ps.map λx=>(x.1,x.2.1))[j]?=some (i,v):=by simp[hj]
   rw[p1]at h1;rw[List.getElem?_zip_eq_some]at h1;have h2:=h1.1;rw[List.getElem?_map]at h2;cases hq:parts.toList[j]? with|none=>rw[hq]at h2;cases h2|some q=>rw[hq]at h2;simp at h2;have:=Qb PJ j q.1 q.2 hq;omega) rfl (by rw[ha0,azS];simp) (by simpa using me.nil _ _ _) (by simp) (by simp) arh
 have hxl:xs.length=len:=by have h1:=LW.1;rw[Array.length_toList,yk,ha0,bE]at h1;exact(Nat.eq_of_mul_eq_mul_right e.size_pos h1).symm
 have azV:¬(16777216<len*e.size):=by have:len*e.size<=1000*4096:=Nat.mul_le_mul hlen hsm;omega
 have ej:(execOp a.eval o).run P w=.ok (.value (.slice (some ⟨w.heap.size,0,none⟩) len len)) (w.alloc (.cells jS te)):=by
  have ZS:Instr.fill (λi=>some (i*e.size,e.size)) ((Array.range (len*e.size)).map ((if len*e.size=0 then(#[]:Array Value) else z.cells)[·%(if len*e.size=0 then(#[]:Array Value) else z.cells).size]!)) (parts.map λ(i,x)=>(i,a.eval x)).toList=some jS:=by rw[afe];exact alL
  by_cases h0:len*e.size=0;rw[aM h0]at ZS;simp only[execOp,ho,Instr.buildSlice,underlying,Sem.run_bind,run_program,hu,Result.andThen_ok,Sem.run_pure,sizeOf,typeInfo,IT,xp];rw[nt,aM h0];simp only[Sem.run_pure,Result.andThen_ok,ZS,newRow,Sem.run_bind,run_newObj];rfl;rw[aK h0]at ZS;simp only[execOp,ho,Instr.buildSlice,underlying,Sem.run_bind,run_program,hu,Result.andThen_ok,Sem.run_pure,sizeOf,typeInfo,IT,xp];rw[nt,aK h0];simp only[zeroValue,typeInfo,Sem.run_bind,run_program,IT,hz,Sem.run_pure,Result.andThen_ok,ZS,newRow,run_newObj];rfl
 refine⟨_,_,_,.inl ej,?_,hk⟩;have apZ:me g'.hw w e (jS.toList.take (xs.length*e.size)) xs ae7:=by rw[bL (by rw[Array.length_toList,yk,ha0,hxl];exact ba _)];simpa using LW
 have:=oV.VB o.dst (T:=te) (fr:=(0,0)) (cap:=len) (.inl rfl) (by intro j _;simp) (by rw[yk,ha0]) (by omega) apZ Ff (λb hb=>by obtain⟨j,hj⟩:=hl' b hb;rw[hj];rfl);rw[hxl]at this;exact this;cases hk;cases hk;cases hk
end Go.Dn
