import Derived.Test.YtnmppgnbjfdffaaGreatDnOps5
/- Part 6: structs and slices that are built; append. -/
namespace Go.Dn
open Go.RowKit
variable {P:Program} {C:Ctx} {st:AS} {a:Act} {w:World} {R:Type} {r:R}
variable {parts:Array (Nat×Operand)} {place:Nat->ay (Nat×Nat)} {T:TypeId} {hs:aw (Value×AV)}
theorem dH.eK:∀(xs:aw Operand){g:Gh}{st:AS}{hs:aw (Value×AV)},dH C g st a w hs->
 ∃g',dH C g' (eK st xs).2 a w (hs++(xs.map a.eval).zip (eK st xs).1)/\(eK st xs).1.length=xs.length/\(eK st xs).2.ep=st.ep
 |[],g,st,hs,h=>⟨g,by simpa[Dn.eK]using h,rfl,rfl⟩
 |x::xs,g,st,hs,h=>by obtain⟨g1,h1⟩:=h.take x;obtain⟨g2,h2,hl,vY⟩:=dH.eK xs h1;refine⟨g2,?_,by simp[Dn.eK,hl],by simp only[Dn.eK];rw[vY,Pg]⟩;simpa[Dn.eK]using h2
theorem RS {α β:Type}(f:α->Sem β)(gf:α->β)(w:World):∀(l:aw α),(∀x∈l,(f x).run P w=.ok (gf x) w)->(l.mapM f).run P w=.ok (l.map gf) w
 |[],_=>by simp
 |x::l,h=>by rw[List.mapM_cons];simp only[Sem.run_bind,h x (by simp),Result.andThen_ok,RS f gf w l (λy hy=>h y (eL _ hy)),Sem.run_pure,cD]
theorem Az {α β:Type}(f:α->Sem β)(gf:α->β)(w:World)(l:Array α)(h:∀x∈l,(f x).run P w=.ok (gf x) w):(l.mapM f).run P w=.ok (l.map gf) w:=by rw[Array.mapM_eq_mapM_toList,Sem.run_map,RS f gf w l.toList (λx hx=>h x (by simpa using hx))];simp only[Result.andThen_ok,Result.ok.injEq,iv];apply eO;simp
theorem K6 (us:ir):∀(arr:Array Value)(off j:Nat),((us.zipIdx j).foldl (λcs (x:Value×Nat)=>cs.setIfInBounds (off+x.2) x.1) arr)=eh arr (off+j) us:=by induction us with|nil=>intro arr off j;rfl|cons u us ih=>intro arr off j;rw[List.zipIdx_cons,List.foldl_cons,ih];rfl
theorem Mi {cells:Array Value}{i:Nat}{v:Value}{rest:aw (Nat×Value)}{off:Nat}{us:ir}(hp:place i=some (off,us.length))(hv:v.cells.toList=us)(gu:off+us.length<=cells.size):Instr.fill place cells ((i,v)::rest)=Instr.fill place (eh cells off us) rest:=by
 have sB:v.cells.size=us.length:=by rw[<-hv];simp
 rw[Instr.fill,hp];simp only[sB];rw[aG (by simp;omega)];congr 1;have:v.cells=us.toArray:=by apply eO;simpa using hv
 rw[this];have h2:=K6 us cells off 0;rw[dK]at h2;rw[<-h2];rw[<-Array.foldl_toList];simp
theorem YP {cs vs:aw AC}{off n:Nat}(h:vs.length=n):dT cs off vs=cs.take off++vs++cs.drop (off+n):=by simp only[dT];rw[h]
theorem I1 {g:Gh}(h:dH C g st a w hs){jv:aw (Nat×Nat)}(CJ:∀i fo n,jv[i]?=some (fo,n)->place i=some (fo,n)):
 ∀(parts:aw (Nat×Value×AV))(k:Nat)(arr:Array Value)(zs:aw AC)(fp:ff)(cs:aw AC),(∀j i v av,parts[j]?=some (i,v,av)->hs[k+j]?=some (v,av))->
  bA (cH C g st w) arr.toList zs fp->fp.Nodup->(∀b∈fp,∃j,j<k/\g.dX b=some (.hand j))->
  uc jv zs (parts.map λx=>(x.1,x.2.2.cells))=some cs->
  ∃iI jJ,Instr.fill place arr (parts.map λx=>(x.1,x.2.1))=some iI/\bA (cH C g st w) iI.toList cs jJ/\jJ.Nodup/\∀b∈jJ,∃j,g.dX b=some (.hand j)
 |[],k,arr,zs,fp,cs,_,hr,hn,hl,hb=>by simp[uc]at hb;subst hb;exact⟨arr,fp,rfl,hr,hn,λb hb=>let ⟨j,_,hj⟩:=hl b hb;⟨j,hj⟩⟩
 |(i,v,av)::parts,k,arr,zs,fp,cs,hp,hr,hn,hl,hb=>by
  simp only[cD,uc,dF]at hb;split at hb;rename_i off n Lq;split at hb;rename_i hc;obtain⟨fh,Ms,La,Qw⟩:=h.hands k v av (by simpa using hp 0 i v av rfl);cases av with
  |tS ts=>simp[AV.cells,AC.FI]at hc
  |val gg vs=>
   simp only[AV.cells]at hc hb;obtain⟨us,eY,Sz⟩:=Ms;have hul:=Sz.length;have h1:=Sz.lV hc.2.2;have yS:=Ge eY h1;have hal:=hr.length;have amq:arr.size=zs.length:=by simpa using hal
   have gu:off+us.length<=arr.size:=by omega
   have afy:place i=some (off,us.length):=by rw[CJ i off n Lq];congr 2;omega
   obtain⟨f1,f2,f3,rfl,r1,r2,r3⟩:=hr.mid off us.length;have eI:bA (cH C g st w) (eh arr off us).toList (dT zs off vs) (f1++fh++f3):=by rw[tq us arr off gu,YP hul.symm];exact(r1.append Sz).append r3
   have Bd:∀b∈fh,b∉f1++f2++f3:=by intro b gK hm;obtain⟨j,hj,hlj⟩:=hl b hm;rw[Qw b gK]at hlj;simp at hlj;omega
   have AY:=hn;rw[aJ]at AY;have n1:=aH.1 AY;have n2:=aH.1 n1.2.1;have afu:(f1++fh++f3).Nodup:=by rw[aJ];refine aH.2 ⟨n1.1,aH.2 ⟨La,n2.2.1,?_⟩,?_⟩;rintro b gK c wx rfl;exact Bd b gK (by simp[wx]);rintro b gK c wx rfl;rcases ax.1 wx with wx|wx;exact Bd b wx (by simp[gK]);exact n1.2.2 b gK b (ba _ wx) rfl
   obtain⟨iI,jJ,hf,ua,alF,hl'⟩:=I1 h CJ parts (k+1) (eh arr off us) (dT zs off vs) (f1++fh++f3) cs (λj i' v' Ld hj=>by have:=hp (j+1) i' v' Ld (by simpa using hj);rwa[show k+(j+1)=k+1+j by omega]at this) eI afu (λb gK=>by simp only[ax]at gK;rcases gK with(gK|gK)|gK;obtain⟨j,hj,hlj⟩:=hl b (by simp[gK]);exact⟨j,by omega,hlj⟩;exact⟨k,by omega,Qw b gK⟩;obtain⟨j,hj,hlj⟩:=hl b (by simp[gK]);exact⟨j,by omega,hlj⟩) hb;refine⟨iI,jJ,?_,ua,alF,hl'⟩;rw[cD,Mi afy yS gu];exact hf
  cases hb;cases hb
theorem agx {α β γ:Type}:∀(l:aw α)(m:aw β)(n:aw γ),l.length=m.length->m.length=n.length->
 ∃ps:aw (α×β×γ),ps.map (λx=>(x.1,x.2.1))=l.zip m/\ps.map (λx=>(x.1,x.2.2))=l.zip n/\ps.map (λx=>(x.2.1,x.2.2))=m.zip n
 |[],[],[],_,_=>⟨[],rfl,rfl,rfl⟩
 |x::l,y::m,z::n,h1,h2=>by obtain⟨ps,p1,p2,p3⟩:=agx l m n (by simpa using h1) (by simpa using h2);exact⟨(x,y,z)::ps,by simp[p1],by simp[p2],by simp[p3]⟩
 |[],_::_,_,h,_=>by simp at h
 |_::_,[],_,h,_=>by simp at h
 |[],[],_::_,_,h=>by simp at h
 |_::_,_::_,[],_,h=>by simp at h
theorem SW {E:Env}(hE:iY P E.ty){o:Oper}(ho:o.op=.build T parts)(h:mP C st a w){K:AS->ay R}(hk:yM E o T parts.toList st K=some r):lH P C o a w K r:=by
 obtain⟨g,hg⟩:=h;unfold yM at hk;split at hk;rename_i ct jv hT;split at hk;rename_i vs bI qD;split at hk;rename_i cs hbc;obtain⟨g',mO,hlen,vY⟩:=hg.eK (parts.toList.map (·.2));rw[qD]at mO hlen;simp only[cA]at mO hlen;have lI:=hE T _ hT;obtain⟨inf,z,zv,sB,_,hz,hzc⟩:=lI.elem.info;obtain⟨fs,hu,En⟩:=lI.agg rfl;have aff:=lI.count rfl fs hu;have ac6:(fs.mapM λf=>do pure (f.offset,<-sizeOf f.type):Sem (Array (Nat×Nat))).run P w=.ok (fs.map λf=>(f.offset,P.cellsOf f.type)) w:=by refine Az _ _ w fs (λf hf=>?_);obtain⟨i,hi,rfl⟩:=Array.mem_iff_getElem.1 hf;obtain⟨alV,ahk⟩:=aff i fs[i] (Array.getElem?_eq_getElem hi);simp[sizeOf,typeInfo,ahk,Program.cellsOf]
 have CJ:∀(i fo n:Nat),jv[i]?=some (fo,n)->(λ(i:Nat)=>(fs.map λf=>(f.offset,P.cellsOf f.type))[i]?) i=some (fo,n):=by intro i fo n hi;obtain⟨fd,hfd,h1,_,alV,h2,h3⟩:=En i fo n hi;simp only[Array.getElem?_map,hfd,da,h1,Program.cellsOf,h2,h3,fj]
 have hzero:bA (cH C g' bI w) z.cells.toList (cellsOf ct (.own none) ct.zero) []:=by rw[hzc];exact xu (Cr _ _ _)
 have hl1:(parts.toList.map (·.1)).length=((parts.toList.map (·.2)).map a.eval).length:=by simp
 have xo:((parts.toList.map (·.2)).map a.eval).length=vs.length:=by rw[hlen];simp
 obtain⟨ps,p1,p2,p3⟩:=agx (parts.toList.map (·.1)) ((parts.toList.map (·.2)).map a.eval) vs hl1 xo;have alp:uc jv (cellsOf ct (.own none) ct.zero) (ps.map λx=>(x.1,x.2.2.cells))=some cs:=by
  rw[<-hbc];congr 1;have:(ps.map λx=>(x.1,x.2.2.cells))=(ps.map λx=>(x.1,x.2.2)).map (λy=>(y.1,y.2.cells)):=by simp
  rw[this,p2,List.zip_map_right];simp
 obtain⟨iI,jJ,aaC,eI,AY,hl'⟩:=I1 mO (place:=λ(i:Nat)=>(fs.map λf=>(f.offset,P.cellsOf f.type))[i]?) CJ ps 0 z.cells _ [] cs
  (λj i v av hj=>by
   have h1:(ps.map λx=>(x.2.1,x.2.2))[j]?=some (v,av):=by simp[hj]
   rw[p3]at h1;simpa using h1) hzero (by simp) (by simp) alp
 have TN:(parts.map λ(i,x)=>(i,a.eval x)).toList=ps.map λx=>(x.1,x.2.1):=by rw[p1];apply cE;intro j;simp[List.zip_eq_zipWith]
 have dV:(execOp a.eval o).run P w=.ok (.value (.agg iI)) w:=by simp only[execOp,ho,Instr.build,zeroValue,typeInfo,underlying,Sem.run_bind,run_program,zv,hz,hu,Result.andThen_ok,Sem.run_pure,ac6,TN,aaC]
 refine⟨.agg iI,w,_,.inl dV,?_,hk⟩;exact mO.Kt o.dst rfl rfl rfl rfl (λt ht=>⟨ht,rfl⟩) (Fr.refl _ _) (λ_ _ _ _=>rfl) (λ_ _ _ ho hu=>⟨ho,hu⟩) ⟨iI.toList,by simp[Cut],eI⟩ AY (λb hb=>by obtain⟨j,hj⟩:=hl' b hb;exact⟨(mO.fQ b _ hj).1,.inl (by rw[hj];rfl)⟩);cases hk;cases hk
theorem Q9 {g:Gh}(h:dH C g st a w hs){e:CT}:
 ∀(parts:aw (Nat×Value×AV))(k:Nat)(arr:Array Value)(xs:aw e.D)(fps:aw ff)(ys:aw e.D),(∀j i v av,parts[j]?=some (i,v,av)->hs[k+j]?=some (v,av))->
  (∀j i v av,parts[j]?=some (i,v,av)->i=k+j)->xs.length=k->arr.size=(k+parts.length)*e.size->
  jQ g.hw w e (arr.toList.take (k*e.size)) xs fps->fps.flatten.Nodup->(∀b∈fps.flatten,∃j,j<k/\g.dX b=some (.hand j))->
  zD e (parts.map λx=>x.2.2.cells)=some ys->
  ∃iI TA,Instr.fill (λi=>some (i*e.size,e.size)) arr (parts.map λx=>(x.1,x.2.1))=some iI/\iI.size=arr.size/\jQ g.hw w e iI.toList (xs++ys) TA/\TA.flatten.Nodup/\∀b∈TA.flatten,∃j,g.dX b=some (.hand j)
 |[],k,arr,xs,fps,ys,_,_,hk,sB,BH,hn,hl,hb=>by simp[zD]at hb;subst hb;have:arr.toList.take (k*e.size)=arr.toList:=bL (by simp at sB⊢;omega);rw[this]at BH;exact⟨arr,fps,rfl,rfl,by simpa using BH,hn,λb hb=>let ⟨j,_,hj⟩:=hl b hb;⟨j,hj⟩⟩
 |(i,v,av)::parts,k,arr,xs,fps,ys,hp,hi,hk,sB,BH,hn,hl,hb=>by
  simp only[cD,zD]at hb;split at hb;rename_i y Zl;simp only[aM]at hb;obtain⟨zs,hzs,hyz⟩:=hb;simp at hyz;subst hyz;have hik:i=k:=by simpa using hi 0 i v av rfl
  subst hik;obtain⟨fh,Ms,La,Qw⟩:=h.hands i v av (by simpa using hp 0 i v av rfl);cases av with
  |tS ts=>exfalso;revert Zl;simp only[AV.cells];intro Zl;have:=vH (c:=cH C g st w) (vs:=[undef]) (cs:=[.bot]) (fp:=[]) ⟨[],[],rfl,rfl,rfl⟩ Zl;obtain⟨f1,f2,_,gC,_⟩:=this;have h1:=eV.lV gC undef (by cases hz:e.size with|zero=>have:=e.size_pos;omega|succ n=>simp);cases h1
  |val gg vs=>
   simp only[AV.cells]at Zl;obtain⟨us,eY,Sz⟩:=Ms;obtain⟨f1,f2,alx,gC,sg⟩:=vH Sz Zl;have Qr:us.drop e.size=[]/\f2=[]:=by cases hd:us.drop e.size with|nil=>rw[hd]at sg;exact⟨rfl,sg⟩|cons p q=>rw[hd]at sg;exact sg.elim
   have hul:us.length<=e.size:=by have:=Qr.1;rw[List.drop_eq_nil_iff]at this;exact this
   rw[bL hul]at gC;have afE:us.length=e.size:=eV.length gC;have h1:=eV.lV gC;have yS:=Ge eY h1;have Xf:arr.size=i*e.size+(parts.length+1)*e.size:=by rw[sB,bq,cw]
   have hpe:e.size<=(parts.length+1)*e.size:=by rw[cw,eT];omega
   have gu:i*e.size+us.length<=arr.size:=by omega
   have Ll:fh=f1:=by rw[alx,Qr.2,bt]
   subst Ll;have qD:(eh arr (i*e.size) us).toList.take ((i+1)*e.size)=arr.toList.take (i*e.size)++us:=by
    rw[tq us arr _ gu];have hl1:(arr.toList.take (i*e.size)++us).length=(i+1)*e.size:=by rw[ai,aX,cw,eT,afE];simp;omega
    rw[List.take_append_of_le_length (by omega),bL (by omega)]
   have TM:jQ g.hw w e us [y] [fh]:=by refine⟨by simp[afE],rfl,λj z f hz hf=>?_⟩;cases j with|zero=>simp at hz hf;subst hz;subst hf;rw[Nat.zero_mul,eD,bL (by omega)];exact gC|succ j=>simp at hz
   have alu:jQ g.hw w e ((eh arr (i*e.size) us).toList.take ((i+1)*e.size)) (xs++[y]) (fps++[fh]):=by rw[qD];exact BH.append TM
   have Bd:∀b∈fh,b∉fps.flatten:=by intro b gK hm;obtain⟨j,hj,hlj⟩:=hl b hm;rw[Qw b gK]at hlj;simp at hlj;omega
   obtain⟨iI,TA,hf,vZ,afg,Bg,xo⟩:=Q9 h parts (i+1) (eh arr (i*e.size) us) (xs++[y]) (fps++[fh]) zs (λj i' v' Ld hj=>by have:=hp (j+1) i' v' Ld (by simpa using hj);rwa[show i+(j+1)=i+1+j by omega]at this) (λj i' v' Ld hj=>by have:=hi (j+1) i' v' Ld (by simpa using hj);omega) (by simp[hk]) (by rw[ik,sB,bq];congr 1;omega) alu (by simp only[dN,List.flatten_cons,List.flatten_nil,bt];refine aH.2 ⟨hn,La,?_⟩;rintro b gK c wx rfl;exact Bd b wx gK) (λb gK=>by simp only[dN,List.flatten_cons,List.flatten_nil,bt,ax]at gK;rcases gK with gK|gK;obtain⟨j,hj,hlj⟩:=hl b gK;exact⟨j,by omega,hlj⟩;exact⟨i,by omega,Qw b gK⟩) hzs;refine⟨iI,TA,?_,by rw[vZ,ik],by simpa using afg,Bg,xo⟩;rw[cD,Mi (by rw[afE]) yS gu];exact hf
  cases hb
theorem Fh:∀{n:Nat}{l:aw (Nat×Operand)},Fg n l=true->∀j i x,l[j]?=some (i,x)->i=n+j
 |_,[],_,j,i,x,h=>by simp at h
 |n,(m,y)::l,h,0,i,x,hj=>by simp only[Fg,ae,bc]at h;simp at hj;rw[<-hj.1];exact h.1
 |n,(m,y)::l,h,j+1,i,x,hj=>by simp only[Fg,ae,bc]at h;have:=Fh h.2 j i x (by simpa using hj);omega
theorem H9 {E:Env}(hE:iY P E.ty){o:Oper}{len:Nat}(ho:o.op=.buildSlice T len parts)(h:mP C st a w){K:AS->ay R}(hk:kP E o T len parts.toList st K=some r):lH P C o a w K r:=by
 obtain⟨g,hg⟩:=h;unfold kP at hk;split at hk;rename_i e hT;split at hk;rename_i hc;obtain⟨CJ,Lp,hlen⟩:=hc;split at hk;rename_i vs bI qD;split at hk;rename_i xs alC;obtain⟨g',mO,hvl,vY⟩:=hg.eK (parts.toList.map (·.2));rw[qD]at mO hvl;simp only[cA]at mO hvl;obtain⟨te,hu,⟨inf,z,zv,sB,hby,hz,hzc⟩,hsm⟩:=Cc hE hT;have hl1:(parts.toList.map (·.1)).length=((parts.toList.map (·.2)).map a.eval).length:=by simp
 have xo:((parts.toList.map (·.2)).map a.eval).length=vs.length:=by rw[hvl];simp
 obtain⟨ps,p1,p2,p3⟩:=agx (parts.toList.map (·.1)) ((parts.toList.map (·.2)).map a.eval) vs hl1 xo;have alM:ps.length=len:=by have:=congrArg List.length p1;simp at this;rw[this,<-CJ];simp
 have ahq:zD e (ps.map λx=>x.2.2.cells)=some xs:=by
  rw[<-alC];congr 1;have:(ps.map λx=>x.2.2.cells)=(ps.map λx=>(x.1,x.2.2)).map (λy=>y.2.cells):=by simp
  rw[this,p2];have h2:((parts.toList.map (·.1)).zip vs).map (λy=>y.2.cells)=(((parts.toList.map (·.1)).zip vs).map Prod.snd).map AV.cells:=by simp
  rw[h2,List.map_snd_zip (by rw[<-xo,<-hl1];exact aS _)]
 have TN:(parts.map λ(i,x)=>(i,a.eval x)).toList=ps.map λx=>(x.1,x.2.1):=by rw[p1];apply cE;intro j;simp[List.zip_eq_zipWith]
 have hzs:z.cells.size=e.size:=by rw[<-nV e,<-hzc];simp
 let ag5:Array Value:=madeCells (if len*e.size=0 then #[] else z.cells) (len*e.size);have ha0:ag5.size=len*e.size:=size_madeCells _ _
 obtain⟨iI,TA,aaC,vZ,BH,AY,hl'⟩:=Q9 mO (e:=e) ps 0 ag5 [] [] xs
  (λj i v av hj=>by
   have h1:(ps.map λx=>(x.2.1,x.2.2))[j]?=some (v,av):=by simp[hj]
   rw[p3]at h1;simpa using h1)
  (λj i v av hj=>by
   have h1:(ps.map λx=>(x.1,x.2.1))[j]?=some (i,v):=by simp[hj]
   rw[p1]at h1;rw[List.getElem?_zip_eq_some]at h1;have h2:=h1.1;rw[List.getElem?_map]at h2;cases hq:parts.toList[j]? with|none=>rw[hq]at h2;cases h2|some q=>rw[hq]at h2;simp at h2;have:=Fh Lp j q.1 q.2 hq;omega) rfl (by rw[ha0,alM];simp) (by simpa using jQ.nil _ _ _) (by simp) (by simp) ahq
 have hxl:xs.length=len:=by have h1:=BH.1;rw[Array.length_toList,vZ,ha0,cA]at h1;exact(Nat.eq_of_mul_eq_mul_right e.size_pos h1).symm
 have alP:¬(16777216<len*e.size):=by have:len*e.size<=1000*4096:=Nat.mul_le_mul hlen hsm;omega
 have dV:(execOp a.eval o).run P w=.ok (.value (.slice (some ⟨w.heap.size,0,none⟩) len len)) (w.alloc (.cells iI te)):=by
  have Ob:Instr.fill (λi=>some (i*e.size,e.size)) ((Array.range (len*e.size)).map ((if len*e.size=0 then(#[]:Array Value) else z.cells)[·%(if len*e.size=0 then(#[]:Array Value) else z.cells).size]!)) (parts.map λ(i,x)=>(i,a.eval x)).toList=some iI:=by rw[TN];exact aaC
  by_cases h0:len*e.size=0;rw[aF h0]at Ob;simp only[execOp,ho,Instr.buildSlice,underlying,Sem.run_bind,run_program,hu,Result.andThen_ok,Sem.run_pure,sizeOf,typeInfo,zv,sB];rw[lF,aF h0];simp only[Sem.run_pure,Result.andThen_ok,Ob,newRow,Sem.run_bind,run_newObj];rfl;rw[aG h0]at Ob;simp only[execOp,ho,Instr.buildSlice,underlying,Sem.run_bind,run_program,hu,Result.andThen_ok,Sem.run_pure,sizeOf,typeInfo,zv,sB];rw[lF,aG h0];simp only[zeroValue,typeInfo,Sem.run_bind,run_program,zv,hz,Sem.run_pure,Result.andThen_ok,Ob,newRow,run_newObj];rfl
 refine⟨_,_,_,.inl dV,?_,hk⟩;have afg:jQ g'.hw w e (iI.toList.take (xs.length*e.size)) xs TA:=by rw[bL (by rw[Array.length_toList,vZ,ha0,hxl];exact aS _)];simpa using BH
 have:=mO.Kf o.dst (T:=te) (fr:=(0,0)) (cap:=len) (.inl rfl) (by intro j _;simp) (by rw[vZ,ha0]) (by omega) afg AY (λb hb=>by obtain⟨j,hj⟩:=hl' b hb;rw[hj];rfl);rw[hxl]at this;exact this;cases hk;cases hk;cases hk
end Go.Dn
