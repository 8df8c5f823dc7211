import Derived.Test.YthllnaiaikjelaaGreatDnOps5
/- Part 6: structs and slices that are built; append. -/
namespace Go.Dn
open Go.RowKit
variable {P:Program} {C:Ctx} {st:AS} {a:Act} {w:World} {R:Type} {r:R}
variable {parts:Array (Nat×Operand)} {place:Nat->au (Nat×Nat)} {T:TypeId} {hs:ar (Value×AV)}
theorem dN.ft:∀(xs:ar Operand){g:Gh}{st:AS}{hs:ar (Value×AV)},dN C g st a w hs->
 ∃g',dN C g' (ft st xs).2 a w (hs++(xs.map a.eval).zip (ft st xs).1)/\(ft st xs).1.length=xs.length/\(ft st xs).2.ep=st.ep
 |[],g,st,hs,h=>⟨g,by simpa[Dn.ft]using h,rfl,rfl⟩
 |x::xs,g,st,hs,h=>by obtain⟨g1,h1⟩:=h.take x;obtain⟨g2,h2,hl,Cw⟩:=dN.ft xs h1;refine⟨g2,?_,by simp[Dn.ft,hl],by simp only[Dn.ft];rw[Cw,abj]⟩;simpa[Dn.ft]using h2
theorem adI {α β:Type}(f:α->Sem β)(gf:α->β)(w:World):∀(l:ar α),(∀x∈l,(f x).run P w=.ok (gf x) w)->(l.mapM f).run P w=.ok (l.map gf) w
 |[],_=>by simp
 |x::l,h=>by rw[List.mapM_cons];simp only[Sem.run_bind,h x (by simp),Result.andThen_ok,adI f gf w l (λy hy=>h y (dK _ hy)),Sem.run_pure,ew]
theorem KF {α β:Type}(f:α->Sem β)(gf:α->β)(w:World)(l:Array α)(h:∀x∈l,(f x).run P w=.ok (gf x) w):(l.mapM f).run P w=.ok (l.map gf) w:=by rw[Array.mapM_eq_mapM_toList,Sem.run_map,adI f gf w l.toList (λx hx=>h x (by simpa using hx))];simp only[Result.andThen_ok,Result.ok.injEq,iX];apply eQ;simp
theorem WY (us:iW):∀(arr:Array Value)(off j:Nat),((us.zipIdx j).foldl (λcs (x:Value×Nat)=>cs.setIfInBounds (off+x.2) x.1) arr)=eY arr (off+j) us:=by induction us with|nil=>intro arr off j;rfl|cons u us ih=>intro arr off j;rw[List.zipIdx_cons,List.foldl_cons,ih];rfl
theorem Yd {cells:Array Value}{i:Nat}{v:Value}{rest:ar (Nat×Value)}{off:Nat}{us:iW}(hp:place i=some (off,us.length))(hv:v.cells.toList=us)(iB:off+us.length<=cells.size):Instr.fill place cells ((i,v)::rest)=Instr.fill place (eY cells off us) rest:=by
 have xx:v.cells.size=us.length:=by rw[<-hv];simp
 rw[Instr.fill,hp];simp only[xx];rw[aK (by simp;omega)];congr 1;have:v.cells=us.toArray:=by apply eQ;simpa using hv
 rw[this];have h2:=WY us cells off 0;rw[dZ]at h2;rw[<-h2];rw[<-Array.foldl_toList];simp
theorem akO {cs vs:ar AC}{off n:Nat}(h:vs.length=n):dw cs off vs=cs.take off++vs++cs.drop (off+n):=by simp only[dw];rw[h]
theorem UM {g:Gh}(h:dN C g st a w hs){lG:ar (Nat×Nat)}(HF:∀i fo n,lG[i]?=some (fo,n)->place i=some (fo,n)):
 ∀(parts:ar (Nat×Value×AV))(k:Nat)(arr:Array Value)(zs:ar AC)(fp:ei)(cs:ar AC),(∀j i v av,parts[j]?=some (i,v,av)->hs[k+j]?=some (v,av))->
  bE (cP C g st w) arr.toList zs fp->fp.Nodup->(∀b∈fp,∃j,j<k/\g.eC b=some (.hand j))->
  CA lG zs (parts.map λx=>(x.1,x.2.2.cells))=some cs->
  ∃jV ji,Instr.fill place arr (parts.map λx=>(x.1,x.2.1))=some jV/\bE (cP C g st w) jV.toList cs ji/\ji.Nodup/\∀b∈ji,∃j,g.eC b=some (.hand j)
 |[],k,arr,zs,fp,cs,_,hr,hn,hl,hb=>by simp[CA]at hb;subst hb;exact⟨arr,fp,rfl,hr,hn,λb hb=>let ⟨j,_,hj⟩:=hl b hb;⟨j,hj⟩⟩
 |(i,v,av)::parts,k,arr,zs,fp,cs,hp,hr,hn,hl,hb=>by
  simp only[ew,CA,dY]at hb;split at hb;rename_i off n Xd;split at hb;rename_i hc;obtain⟨fh,Yo,SV,hlh⟩:=h.hands k v av (by simpa using hp 0 i v av rfl);cases av with
  |Af ts=>simp[AV.cells,AC.QR]at hc
  |val gg vs=>
   simp only[AV.cells]at hc hb;obtain⟨us,eP,hrh⟩:=Yo;have hul:=hrh.length;have h1:=hrh.py hc.2.2;have Iz:=Rz eP h1;have hal:=hr.length;have aAL:arr.size=zs.length:=by simpa using hal
   have iB:off+us.length<=arr.size:=by omega
   have aqG:place i=some (off,us.length):=by rw[HF i off n Xd];congr 2;omega
   obtain⟨f1,f2,f3,rfl,r1,r2,r3⟩:=hr.mid off us.length;have ee:bE (cP C g st w) (eY arr off us).toList (dw zs off vs) (f1++fh++f3):=by rw[BN us arr off iB,akO hul.symm];exact(r1.append hrh).append r3
   have EP:∀b∈fh,b∉f1++f2++f3:=by intro b ig hm;obtain⟨j,hj,hlj⟩:=hl b hm;rw[hlh b ig]at hlj;simp at hlj;omega
   have Fq:=hn;rw[aX]at Fq;have n1:=aG.1 Fq;have n2:=aG.1 n1.2.1;have aqC:(f1++fh++f3).Nodup:=by rw[aX];refine aG.2 ⟨n1.1,aG.2 ⟨SV,n2.2.1,?_⟩,?_⟩;rintro b ig c IX rfl;exact EP b ig (by simp[IX]);rintro b ig c IX rfl;rcases aA.1 IX with IX|IX;exact EP b IX (by simp[ig]);exact n1.2.2 b ig b (bh _ IX) rfl
   obtain⟨jV,ji,hf,zI,aoP,hl'⟩:=UM h HF parts (k+1) (eY arr off us) (dw zs off vs) (f1++fh++f3) cs (λj i' v' W5 hj=>by have:=hp (j+1) i' v' W5 (by simpa using hj);rwa[show k+(j+1)=k+1+j by omega]at this) ee aqC (λb ig=>by simp only[aA]at ig;rcases ig with(ig|ig)|ig;obtain⟨j,hj,hlj⟩:=hl b (by simp[ig]);exact⟨j,by omega,hlj⟩;exact⟨k,by omega,hlh b ig⟩;obtain⟨j,hj,hlj⟩:=hl b (by simp[ig]);exact⟨j,by omega,hlj⟩) hb;refine⟨jV,ji,?_,zI,aoP,hl'⟩;rw[ew,Yd aqG Iz iB];exact hf
  cases hb;cases hb
theorem aq8 {α β γ:Type}:∀(l:ar α)(m:ar β)(n:ar γ),l.length=m.length->m.length=n.length->
 ∃ps:ar (α×β×γ),ps.map (λx=>(x.1,x.2.1))=l.zip m/\ps.map (λx=>(x.1,x.2.2))=l.zip n/\ps.map (λx=>(x.2.1,x.2.2))=m.zip n
 |[],[],[],_,_=>⟨[],rfl,rfl,rfl⟩
 |x::l,y::m,z::n,h1,h2=>by obtain⟨ps,p1,p2,p3⟩:=aq8 l m n (by simpa using h1) (by simpa using h2);exact⟨(x,y,z)::ps,by simp[p1],by simp[p2],by simp[p3]⟩
 |[],_::_,_,h,_=>by simp at h
 |_::_,[],_,h,_=>by simp at h
 |[],[],_::_,_,h=>by simp at h
 |_::_,_::_,[],_,h=>by simp at h
theorem ae4 {E:Env}(hE:kG P E.ty){o:Oper}(ho:o.op=.build T parts)(h:pL C st a w){K:AS->au R}(hk:Iw E o T parts.toList st K=some r):pa P C o a w K r:=by
 obtain⟨g,hg⟩:=h;unfold Iw at hk;split at hk;rename_i ct lG hT;split at hk;rename_i vs st' xC;split at hk;rename_i cs hbc;obtain⟨g',oY,hlen,Cw⟩:=hg.ft (parts.toList.map (·.2));rw[xC]at oY hlen;simp only[bH]at oY hlen;have lg:=hE T _ hT;obtain⟨inf,z,Ja,xx,_,hz,hzc⟩:=lg.elem.info;obtain⟨fs,hu,NU⟩:=lg.agg rfl;have aqo:=lg.count rfl fs hu;have aoQ:(fs.mapM λf=>do pure (f.offset,<-sizeOf f.type):Sem (Array (Nat×Nat))).run P w=.ok (fs.map λf=>(f.offset,P.cellsOf f.type)) w:=by refine KF _ _ w fs (λf hf=>?_);obtain⟨i,hi,rfl⟩:=Array.mem_iff_getElem.1 hf;obtain⟨aAt,arD⟩:=aqo i fs[i] (Array.getElem?_eq_getElem hi);simp[sizeOf,typeInfo,arD,Program.cellsOf]
 have HF:∀(i fo n:Nat),lG[i]?=some (fo,n)->(λ(i:Nat)=>(fs.map λf=>(f.offset,P.cellsOf f.type))[i]?) i=some (fo,n):=by intro i fo n hi;obtain⟨fd,hfd,h1,_,aAt,h2,h3⟩:=NU i fo n hi;simp only[Array.getElem?_map,hfd,dB,h1,Program.cellsOf,h2,h3,fU]
 have hzero:bE (cP C g' st' w) z.cells.toList (cellsOf ct (.own none) ct.zero) []:=by rw[hzc];exact wE (M6 _ _ _)
 have hl1:(parts.toList.map (·.1)).length=((parts.toList.map (·.2)).map a.eval).length:=by simp
 have ER:((parts.toList.map (·.2)).map a.eval).length=vs.length:=by rw[hlen];simp
 obtain⟨ps,p1,p2,p3⟩:=aq8 (parts.toList.map (·.1)) ((parts.toList.map (·.2)).map a.eval) vs hl1 ER;have azV:CA lG (cellsOf ct (.own none) ct.zero) (ps.map λx=>(x.1,x.2.2.cells))=some cs:=by
  rw[<-hbc];congr 1;have:(ps.map λx=>(x.1,x.2.2.cells))=(ps.map λx=>(x.1,x.2.2)).map (λy=>(y.1,y.2.cells)):=by simp
  rw[this,p2,List.zip_map_right];simp
 obtain⟨jV,ji,ama,ee,Fq,hl'⟩:=UM oY (place:=λ(i:Nat)=>(fs.map λf=>(f.offset,P.cellsOf f.type))[i]?) HF ps 0 z.cells _ [] cs
  (λj i v av hj=>by
   have h1:(ps.map λx=>(x.2.1,x.2.2))[j]?=some (v,av):=by simp[hj]
   rw[p3]at h1;simpa using h1) hzero (by simp) (by simp) azV
 have afE:(parts.map λ(i,x)=>(i,a.eval x)).toList=ps.map λx=>(x.1,x.2.1):=by rw[p1];apply cW;intro j;simp[List.zip_eq_zipWith]
 have ez:(execOp a.eval o).run P w=.ok (.value (.agg jV)) w:=by simp only[execOp,ho,Instr.build,zeroValue,typeInfo,underlying,Sem.run_bind,run_program,Ja,hz,hu,Result.andThen_ok,Sem.run_pure,aoQ,afE,ama]
 refine⟨.agg jV,w,_,.inl ez,?_,hk⟩;exact oY.V7 o.dst rfl rfl rfl rfl (λt ht=>⟨ht,rfl⟩) (Fr.refl _ _) (λ_ _ _ _=>rfl) (λ_ _ _ ho hu=>⟨ho,hu⟩) ⟨jV.toList,by simp[Cut],ee⟩ Fq (λb hb=>by obtain⟨j,hj⟩:=hl' b hb;exact⟨(oY.fW b _ hj).1,.inl (by rw[hj];rfl)⟩);cases hk;cases hk
theorem ac0 {g:Gh}(h:dN C g st a w hs){e:CT}:
 ∀(parts:ar (Nat×Value×AV))(k:Nat)(arr:Array Value)(xs:ar e.D)(fps:ar ei)(ys:ar e.D),(∀j i v av,parts[j]?=some (i,v,av)->hs[k+j]?=some (v,av))->
  (∀j i v av,parts[j]?=some (i,v,av)->i=k+j)->xs.length=k->arr.size=(k+parts.length)*e.size->
  mn g.hw w e (arr.toList.take (k*e.size)) xs fps->fps.flatten.Nodup->(∀b∈fps.flatten,∃j,j<k/\g.eC b=some (.hand j))->
  Jk e (parts.map λx=>x.2.2.cells)=some ys->
  ∃jV afx,Instr.fill (λi=>some (i*e.size,e.size)) arr (parts.map λx=>(x.1,x.2.1))=some jV/\jV.size=arr.size/\mn g.hw w e jV.toList (xs++ys) afx/\afx.flatten.Nodup/\∀b∈afx.flatten,∃j,g.eC b=some (.hand j)
 |[],k,arr,xs,fps,ys,_,_,hk,xx,Mi,hn,hl,hb=>by simp[Jk]at hb;subst hb;have:arr.toList.take (k*e.size)=arr.toList:=bN (by simp at xx⊢;omega);rw[this]at Mi;exact⟨arr,fps,rfl,rfl,by simpa using Mi,hn,λb hb=>let ⟨j,_,hj⟩:=hl b hb;⟨j,hj⟩⟩
 |(i,v,av)::parts,k,arr,xs,fps,ys,hp,hi,hk,xx,Mi,hn,hl,hb=>by
  simp only[ew,Jk]at hb;split at hb;rename_i y hof;simp only[aY]at hb;obtain⟨zs,hzs,hyz⟩:=hb;simp at hyz;subst hyz;have hik:i=k:=by simpa using hi 0 i v av rfl
  subst hik;obtain⟨fh,Yo,SV,hlh⟩:=h.hands i v av (by simpa using hp 0 i v av rfl);cases av with
  |Af ts=>exfalso;revert hof;simp only[AV.cells];intro hof;have:=rh (c:=cP C g st w) (vs:=[undef]) (cs:=[.bot]) (fp:=[]) ⟨[],[],rfl,rfl,rfl⟩ hof;obtain⟨f1,f2,_,fB,_⟩:=this;have h1:=eU.py fB undef (by cases hz:e.size with|zero=>have:=e.size_pos;omega|succ n=>simp);cases h1
  |val gg vs=>
   simp only[AV.cells]at hof;obtain⟨us,eP,hrh⟩:=Yo;obtain⟨f1,f2,az3,fB,kM⟩:=rh hrh hof;have acn:us.drop e.size=[]/\f2=[]:=by cases hd:us.drop e.size with|nil=>rw[hd]at kM;exact⟨rfl,kM⟩|cons p q=>rw[hd]at kM;exact kM.elim
   have hul:us.length<=e.size:=by have:=acn.1;rw[List.drop_eq_nil_iff]at this;exact this
   rw[bN hul]at fB;have aqM:us.length=e.size:=eU.length fB;have h1:=eU.py fB;have Iz:=Rz eP h1;have ajd:arr.size=i*e.size+(parts.length+1)*e.size:=by rw[xx,bJ,cx]
   have hpe:e.size<=(parts.length+1)*e.size:=by rw[cx,eH];omega
   have iB:i*e.size+us.length<=arr.size:=by omega
   have Xb:fh=f1:=by rw[az3,acn.2,bD]
   subst Xb;have xC:(eY arr (i*e.size) us).toList.take ((i+1)*e.size)=arr.toList.take (i*e.size)++us:=by
    rw[BN us arr _ iB];have hl1:(arr.toList.take (i*e.size)++us).length=(i+1)*e.size:=by rw[ay,bm,cx,eH,aqM];simp;omega
    rw[List.take_append_of_le_length (by omega),bN (by omega)]
   have afD:mn g.hw w e us [y] [fh]:=by refine⟨by simp[aqM],rfl,λj z f hz hf=>?_⟩;cases j with|zero=>simp at hz hf;subst hz;subst hf;rw[Nat.zero_mul,fJ,bN (by omega)];exact fB|succ j=>simp at hz
   have az0:mn g.hw w e ((eY arr (i*e.size) us).toList.take ((i+1)*e.size)) (xs++[y]) (fps++[fh]):=by rw[xC];exact Mi.append afD
   have EP:∀b∈fh,b∉fps.flatten:=by intro b ig hm;obtain⟨j,hj,hlj⟩:=hl b hm;rw[hlh b ig]at hlj;simp at hlj;omega
   obtain⟨jV,afx,hf,yu,aqp,Dc,ER⟩:=ac0 h parts (i+1) (eY arr (i*e.size) us) (xs++[y]) (fps++[fh]) zs (λj i' v' W5 hj=>by have:=hp (j+1) i' v' W5 (by simpa using hj);rwa[show i+(j+1)=i+1+j by omega]at this) (λj i' v' W5 hj=>by have:=hi (j+1) i' v' W5 (by simpa using hj);omega) (by simp[hk]) (by rw[js,xx,bJ];congr 1;omega) az0 (by simp only[eE,List.flatten_cons,List.flatten_nil,bD];refine aG.2 ⟨hn,SV,?_⟩;rintro b ig c IX rfl;exact EP b IX ig) (λb ig=>by simp only[eE,List.flatten_cons,List.flatten_nil,bD,aA]at ig;rcases ig with ig|ig;obtain⟨j,hj,hlj⟩:=hl b ig;exact⟨j,by omega,hlj⟩;exact⟨i,by omega,hlh b ig⟩) hzs;refine⟨jV,afx,?_,by rw[yu,js],by simpa using aqp,Dc,ER⟩;rw[ew,Yd (by rw[aqM]) Iz iB];exact hf
  cases hb
theorem Qt:∀{n:Nat}{l:ar (Nat×Operand)},Qs n l=true->∀j i x,l[j]?=some (i,x)->i=n+j
 |_,[],_,j,i,x,h=>by simp at h
 |n,(m,y)::l,h,0,i,x,hj=>by simp only[Qs,ah,bn]at h;simp at hj;rw[<-hj.1];exact h.1
 |n,(m,y)::l,h,j+1,i,x,hj=>by simp only[Qs,ah,bn]at h;have:=Qt h.2 j i x (by simpa using hj);omega
theorem TD {E:Env}(hE:kG P E.ty){o:Oper}{len:Nat}(ho:o.op=.buildSlice T len parts)(h:pL C st a w){K:AS->au R}(hk:nL E o T len parts.toList st K=some r):pa P C o a w K r:=by
 obtain⟨g,hg⟩:=h;unfold nL at hk;split at hk;rename_i e hT;split at hk;rename_i hc;obtain⟨HF,P5,hlen⟩:=hc;split at hk;rename_i vs st' xC;split at hk;rename_i xs az8;obtain⟨g',oY,hvl,Cw⟩:=hg.ft (parts.toList.map (·.2));rw[xC]at oY hvl;simp only[bH]at oY hvl;obtain⟨te,hu,⟨inf,z,Ja,xx,hby,hz,hzc⟩,hsm⟩:=MN hE hT;have hl1:(parts.toList.map (·.1)).length=((parts.toList.map (·.2)).map a.eval).length:=by simp
 have ER:((parts.toList.map (·.2)).map a.eval).length=vs.length:=by rw[hvl];simp
 obtain⟨ps,p1,p2,p3⟩:=aq8 (parts.toList.map (·.1)) ((parts.toList.map (·.2)).map a.eval) vs hl1 ER;have aAk:ps.length=len:=by have:=congrArg List.length p1;simp at this;rw[this,<-HF];simp
 have arJ:Jk e (ps.map λx=>x.2.2.cells)=some xs:=by
  rw[<-az8];congr 1;have:(ps.map λx=>x.2.2.cells)=(ps.map λx=>(x.1,x.2.2)).map (λy=>y.2.cells):=by simp
  rw[this,p2];have h2:((parts.toList.map (·.1)).zip vs).map (λy=>y.2.cells)=(((parts.toList.map (·.1)).zip vs).map Prod.snd).map AV.cells:=by simp
  rw[h2,List.map_snd_zip (by rw[<-ER,<-hl1];exact ba _)]
 have afE:(parts.map λ(i,x)=>(i,a.eval x)).toList=ps.map λx=>(x.1,x.2.1):=by rw[p1];apply cW;intro j;simp[List.zip_eq_zipWith]
 have hzs:z.cells.size=e.size:=by rw[<-sO e,<-hzc];simp
 let aro:Array Value:=madeCells (if len*e.size=0 then #[] else z.cells) (len*e.size);have ha0:aro.size=len*e.size:=size_madeCells _ _
 obtain⟨jV,afx,ama,yu,Mi,Fq,hl'⟩:=ac0 oY (e:=e) ps 0 aro [] [] xs
  (λj i v av hj=>by
   have h1:(ps.map λx=>(x.2.1,x.2.2))[j]?=some (v,av):=by simp[hj]
   rw[p3]at h1;simpa using h1)
  (λj i v av hj=>by
   have h1:(ps.map λx=>(x.1,x.2.1))[j]?=some (i,v):=by simp[hj]
   rw[p1]at h1;rw[List.getElem?_zip_eq_some]at h1;have h2:=h1.1;rw[List.getElem?_map]at h2;cases hq:parts.toList[j]? with|none=>rw[hq]at h2;cases h2|some q=>rw[hq]at h2;simp at h2;have:=Qt P5 j q.1 q.2 hq;omega) rfl (by rw[ha0,aAk];simp) (by simpa using mn.nil _ _ _) (by simp) (by simp) arJ
 have hxl:xs.length=len:=by have h1:=Mi.1;rw[Array.length_toList,yu,ha0,bH]at h1;exact(Nat.eq_of_mul_eq_mul_right e.size_pos h1).symm
 have aAn:¬(16777216<len*e.size):=by have:len*e.size<=1000*4096:=Nat.mul_le_mul hlen hsm;omega
 have ez:(execOp a.eval o).run P w=.ok (.value (.slice (some ⟨w.heap.size,0,none⟩) len len)) (w.alloc (.cells jV te)):=by
  have aac:Instr.fill (λi=>some (i*e.size,e.size)) ((Array.range (len*e.size)).map ((if len*e.size=0 then(#[]:Array Value) else z.cells)[·%(if len*e.size=0 then(#[]:Array Value) else z.cells).size]!)) (parts.map λ(i,x)=>(i,a.eval x)).toList=some jV:=by rw[afE];exact ama
  by_cases h0:len*e.size=0;rw[aM h0]at aac;simp only[execOp,ho,Instr.buildSlice,underlying,Sem.run_bind,run_program,hu,Result.andThen_ok,Sem.run_pure,sizeOf,typeInfo,Ja,xx];rw[ny,aM h0];simp only[Sem.run_pure,Result.andThen_ok,aac,newRow,Sem.run_bind,run_newObj];rfl;rw[aK h0]at aac;simp only[execOp,ho,Instr.buildSlice,underlying,Sem.run_bind,run_program,hu,Result.andThen_ok,Sem.run_pure,sizeOf,typeInfo,Ja,xx];rw[ny,aK h0];simp only[zeroValue,typeInfo,Sem.run_bind,run_program,Ja,hz,Sem.run_pure,Result.andThen_ok,aac,newRow,run_newObj];rfl
 refine⟨_,_,_,.inl ez,?_,hk⟩;have aqp:mn g'.hw w e (jV.toList.take (xs.length*e.size)) xs afx:=by rw[bN (by rw[Array.length_toList,yu,ha0,hxl];exact ba _)];simpa using Mi
 have:=oY.VV o.dst (T:=te) (fr:=(0,0)) (cap:=len) (.inl rfl) (by intro j _;simp) (by rw[yu,ha0]) (by omega) aqp Fq (λb hb=>by obtain⟨j,hj⟩:=hl' b hb;rw[hj];rfl);rw[hxl]at this;exact this;cases hk;cases hk;cases hk
end Go.Dn
