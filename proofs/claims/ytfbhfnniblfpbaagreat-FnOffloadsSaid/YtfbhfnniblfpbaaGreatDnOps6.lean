import Derived.Test.YtfbhfnniblfpbaaGreatDnOps5
/- Part 6: structs and slices that are built; append. -/
namespace Go.Dn
open Go.RowKit
variable {P:Program} {C:Ctx} {st:AS} {a:Act} {w:World} {R:Type} {r:R}
variable {parts:Array (Nat×Operand)} {place:Nat->aA (Nat×Nat)} {T:TypeId} {hs:ax (Value×AV)}
theorem eZ.fV:∀(xs:ax Operand){g:Gh}{st:AS}{hs:ax (Value×AV)},eZ C g st a w hs->
 ∃g',eZ C g' (fV st xs).2 a w (hs++(xs.map a.eval).zip (fV st xs).1)/\(fV st xs).1.length=xs.length/\(fV st xs).2.ep=st.ep
 |[],g,st,hs,h=>⟨g,by simpa[Dn.fV]using h,rfl,rfl⟩
 |x::xs,g,st,hs,h=>by obtain⟨g1,h1⟩:=h.take x;obtain⟨g2,h2,hl,BG⟩:=eZ.fV xs h1;refine⟨g2,?_,by simp[Dn.fV,hl],by simp only[Dn.fV];rw[BG,WW]⟩;simpa[Dn.fV]using h2
theorem Zq {α β:Type}(f:α->Sem β)(gf:α->β)(w:World):∀(l:ax α),(∀x∈l,(f x).run P w=.ok (gf x) w)->(l.mapM f).run P w=.ok (l.map gf) w
 |[],_=>by simp
 |x::l,h=>by rw[List.mapM_cons];simp only[Sem.run_bind,h x (by simp),Result.andThen_ok,Zq f gf w l (λy hy=>h y (cc _ hy)),Sem.run_pure,fb]
theorem GB {α β:Type}(f:α->Sem β)(gf:α->β)(w:World)(l:Array α)(h:∀x∈l,(f x).run P w=.ok (gf x) w):(l.mapM f).run P w=.ok (l.map gf) w:=by rw[Array.mapM_eq_mapM_toList,Sem.run_map,Zq f gf w l.toList (λx hx=>h x (by simpa using hx))];simp only[Result.andThen_ok,Result.ok.injEq,jY];apply fY;simp
theorem Sz (us:jI):∀(arr:Array Value)(off j:Nat),((us.zipIdx j).foldl (λcs (x:Value×Nat)=>cs.setIfInBounds (off+x.2) x.1) arr)=fP arr (off+j) us:=by induction us with|nil=>intro arr off j;rfl|cons u us ih=>intro arr off j;rw[List.zipIdx_cons,List.foldl_cons,ih];rfl
theorem TX {cells:Array Value}{i:Nat}{v:Value}{rest:ax (Nat×Value)}{off:Nat}{us:jI}(hp:place i=some (off,us.length))(hv:v.cells.toList=us)(iW:off+us.length<=cells.size):Instr.fill place cells ((i,v)::rest)=Instr.fill place (fP cells off us) rest:=by
 have wv:v.cells.size=us.length:=by rw[<-hv];simp
 rw[Instr.fill,hp];simp only[wv];rw[aK (by simp;omega)];congr 1;have:v.cells=us.toArray:=by apply fY;simpa using hv
 rw[this];have h2:=Sz us cells off 0;rw[eT]at h2;rw[<-h2];rw[<-Array.foldl_toList];simp
theorem agf {cs vs:ax AC}{off n:Nat}(h:vs.length=n):fC cs off vs=cs.take off++vs++cs.drop (off+n):=by simp only[fC];rw[h]
theorem Qd {g:Gh}(h:eZ C g st a w hs){lE:ax (Nat×Nat)}(C1:∀i fo n,lE[i]?=some (fo,n)->place i=some (fo,n)):
 ∀(parts:ax (Nat×Value×AV))(k:Nat)(arr:Array Value)(zs:ax AC)(fp:fi)(cs:ax AC),(∀j i v av,parts[j]?=some (i,v,av)->hs[k+j]?=some (v,av))->
  bW (dy C g st w) arr.toList zs fp->fp.Nodup->(∀b∈fp,∃j,j<k/\g.fK b=some (.hand j))->
  zD lE zs (parts.map λx=>(x.1,x.2.2.cells))=some cs->
  ∃kq kZ,Instr.fill place arr (parts.map λx=>(x.1,x.2.1))=some kq/\bW (dy C g st w) kq.toList cs kZ/\kZ.Nodup/\∀b∈kZ,∃j,g.fK b=some (.hand j)
 |[],k,arr,zs,fp,cs,_,hr,hn,hl,hb=>by simp[zD]at hb;subst hb;exact⟨arr,fp,rfl,hr,hn,λb hb=>let ⟨j,_,hj⟩:=hl b hb;⟨j,hj⟩⟩
 |(i,v,av)::parts,k,arr,zs,fp,cs,hp,hr,hn,hl,hb=>by
  simp only[fb,zD,eV]at hb;split at hb;rename_i off n SV;split at hb;rename_i hc;obtain⟨fh,Ub,SC,X7⟩:=h.hands k v av (by simpa using hp 0 i v av rfl);cases av with
  |yY ts=>simp[AV.cells,AC.L5]at hc
  |val gg vs=>
   simp only[AV.cells]at hc hb;obtain⟨us,gb,hrh⟩:=Ub;have hul:=hrh.length;have h1:=hrh.oT hc.2.2;have EW:=MP gb h1;have hal:=hr.length;have atj:arr.size=zs.length:=by simpa using hal
   have iW:off+us.length<=arr.size:=by omega
   have alJ:place i=some (off,us.length):=by rw[C1 i off n SV];congr 2;omega
   obtain⟨f1,f2,f3,rfl,r1,r2,r3⟩:=hr.mid off us.length;have fE:bW (dy C g st w) (fP arr off us).toList (fC zs off vs) (f1++fh++f3):=by rw[yq us arr off iW,agf hul.symm];exact(r1.append hrh).append r3
   have Fs:∀b∈fh,b∉f1++f2++f3:=by intro b iq hm;obtain⟨j,hj,hlj⟩:=hl b hm;rw[X7 b iq]at hlj;simp at hlj;omega
   have D5:=hn;rw[aG]at D5;have n1:=aN.1 D5;have n2:=aN.1 n1.2.1;have alF:(f1++fh++f3).Nodup:=by rw[aG];refine aN.2 ⟨n1.1,aN.2 ⟨SC,n2.2.1,?_⟩,?_⟩;rintro b iq c BF rfl;exact Fs b iq (by simp[BF]);rintro b iq c BF rfl;rcases aB.1 BF with BF|BF;exact Fs b BF (by simp[iq]);exact n1.2.2 b iq b (bj _ BF) rfl
   obtain⟨kq,kZ,hf,xp,asM,hl'⟩:=Qd h C1 parts (k+1) (fP arr off us) (fC zs off vs) (f1++fh++f3) cs (λj i' v' SI hj=>by have:=hp (j+1) i' v' SI (by simpa using hj);rwa[show k+(j+1)=k+1+j by omega]at this) fE alF (λb iq=>by simp only[aB]at iq;rcases iq with(iq|iq)|iq;obtain⟨j,hj,hlj⟩:=hl b (by simp[iq]);exact⟨j,by omega,hlj⟩;exact⟨k,by omega,X7 b iq⟩;obtain⟨j,hj,hlj⟩:=hl b (by simp[iq]);exact⟨j,by omega,hlj⟩) hb;refine⟨kq,kZ,?_,xp,asM,hl'⟩;rw[fb,TX alJ EW iW];exact hf
  cases hb;cases hb
theorem ami {α β γ:Type}:∀(l:ax α)(m:ax β)(n:ax γ),l.length=m.length->m.length=n.length->
 ∃ps:ax (α×β×γ),ps.map (λx=>(x.1,x.2.1))=l.zip m/\ps.map (λx=>(x.1,x.2.2))=l.zip n/\ps.map (λx=>(x.2.1,x.2.2))=m.zip n
 |[],[],[],_,_=>⟨[],rfl,rfl,rfl⟩
 |x::l,y::m,z::n,h1,h2=>by obtain⟨ps,p1,p2,p3⟩:=ami l m n (by simpa using h1) (by simpa using h2);exact⟨(x,y,z)::ps,by simp[p1],by simp[p2],by simp[p3]⟩
 |[],_::_,_,h,_=>by simp at h
 |_::_,[],_,h,_=>by simp at h
 |[],[],_::_,_,h=>by simp at h
 |_::_,_::_,[],_,h=>by simp at h
theorem aas {E:Env}(hE:kQ P E.ty){o:Oper}(ho:o.op=.build T parts)(h:qo C st a w){K:AS->aA R}(hk:EO E o T parts.toList st K=some r):oK P C o a w K r:=by
 obtain⟨g,hg⟩:=h;unfold EO at hk;split at hk;rename_i ct lE hT;split at hk;rename_i vs cp vF;split at hk;rename_i cs hbc;obtain⟨g',qn,hlen,BG⟩:=hg.fV (parts.toList.map (·.2));rw[vF]at qn hlen;simp only[bU]at qn hlen;have lV:=hE T _ hT;obtain⟨inf,z,Fu,wv,_,hz,hzc⟩:=lV.elem.info;obtain⟨fs,hu,KH⟩:=lV.agg rfl;have alr:=lV.count rfl fs hu;have ajI:(fs.mapM λf=>do pure (f.offset,<-sizeOf f.type):Sem (Array (Nat×Nat))).run P w=.ok (fs.map λf=>(f.offset,P.cellsOf f.type)) w:=by refine GB _ _ w fs (λf hf=>?_);obtain⟨i,hi,rfl⟩:=Array.mem_iff_getElem.1 hf;obtain⟨as3,amL⟩:=alr i fs[i] (Array.getElem?_eq_getElem hi);simp[sizeOf,typeInfo,amL,Program.cellsOf]
 have C1:∀(i fo n:Nat),lE[i]?=some (fo,n)->(λ(i:Nat)=>(fs.map λf=>(f.offset,P.cellsOf f.type))[i]?) i=some (fo,n):=by intro i fo n hi;obtain⟨fd,hfd,h1,_,as3,h2,h3⟩:=KH i fo n hi;simp only[Array.getElem?_map,hfd,dQ,h1,Program.cellsOf,h2,h3,gH]
 have hzero:bW (dy C g' cp w) z.cells.toList (cellsOf ct (.own none) ct.zero) []:=by rw[hzc];exact xy (Ix _ _ _)
 have hl1:(parts.toList.map (·.1)).length=((parts.toList.map (·.2)).map a.eval).length:=by simp
 have B4:((parts.toList.map (·.2)).map a.eval).length=vs.length:=by rw[hlen];simp
 obtain⟨ps,p1,p2,p3⟩:=ami (parts.toList.map (·.1)) ((parts.toList.map (·.2)).map a.eval) vs hl1 B4;have asx:zD lE (cellsOf ct (.own none) ct.zero) (ps.map λx=>(x.1,x.2.2.cells))=some cs:=by
  rw[<-hbc];congr 1;have:(ps.map λx=>(x.1,x.2.2.cells))=(ps.map λx=>(x.1,x.2.2)).map (λy=>(y.1,y.2.cells)):=by simp
  rw[this,p2,List.zip_map_right];simp
 obtain⟨kq,kZ,ahn,fE,D5,hl'⟩:=Qd qn (place:=λ(i:Nat)=>(fs.map λf=>(f.offset,P.cellsOf f.type))[i]?) C1 ps 0 z.cells _ [] cs
  (λj i v av hj=>by
   have h1:(ps.map λx=>(x.2.1,x.2.2))[j]?=some (v,av):=by simp[hj]
   rw[p3]at h1;simpa using h1) hzero (by simp) (by simp) asx
 have aaY:(parts.map λ(i,x)=>(i,a.eval x)).toList=ps.map λx=>(x.1,x.2.1):=by rw[p1];apply dB;intro j;simp[List.zip_eq_zipWith]
 have fz:(execOp a.eval o).run P w=.ok (.value (.agg kq)) w:=by simp only[execOp,ho,Instr.build,zeroValue,typeInfo,underlying,Sem.run_bind,run_program,Fu,hz,hu,Result.andThen_ok,Sem.run_pure,ajI,aaY,ahn]
 refine⟨.agg kq,w,_,.inl fz,?_,hk⟩;exact qn.RL o.dst rfl rfl rfl rfl (λt ht=>⟨ht,rfl⟩) (Fr.refl _ _) (λ_ _ _ _=>rfl) (λ_ _ _ ho hu=>⟨ho,hu⟩) ⟨kq.toList,by simp[Cut],fE⟩ D5 (λb hb=>by obtain⟨j,hj⟩:=hl' b hb;exact⟨(qn.ir b _ hj).1,.inl (by rw[hj];rfl)⟩);cases hk;cases hk
theorem YB {g:Gh}(h:eZ C g st a w hs){e:CT}:
 ∀(parts:ax (Nat×Value×AV))(k:Nat)(arr:Array Value)(xs:ax e.D)(fps:ax fi)(ys:ax e.D),(∀j i v av,parts[j]?=some (i,v,av)->hs[k+j]?=some (v,av))->
  (∀j i v av,parts[j]?=some (i,v,av)->i=k+j)->xs.length=k->arr.size=(k+parts.length)*e.size->
  mq g.hw w e (arr.toList.take (k*e.size)) xs fps->fps.flatten.Nodup->(∀b∈fps.flatten,∃j,j<k/\g.fK b=some (.hand j))->
  FD e (parts.map λx=>x.2.2.cells)=some ys->
  ∃kq aaO,Instr.fill (λi=>some (i*e.size,e.size)) arr (parts.map λx=>(x.1,x.2.1))=some kq/\kq.size=arr.size/\mq g.hw w e kq.toList (xs++ys) aaO/\aaO.flatten.Nodup/\∀b∈aaO.flatten,∃j,g.fK b=some (.hand j)
 |[],k,arr,xs,fps,ys,_,_,hk,wv,HJ,hn,hl,hb=>by simp[FD]at hb;subst hb;have:arr.toList.take (k*e.size)=arr.toList:=bZ (by simp at wv⊢;omega);rw[this]at HJ;exact⟨arr,fps,rfl,rfl,by simpa using HJ,hn,λb hb=>let ⟨j,_,hj⟩:=hl b hb;⟨j,hj⟩⟩
 |(i,v,av)::parts,k,arr,xs,fps,ys,hp,hi,hk,wv,HJ,hn,hl,hb=>by
  simp only[fb,FD]at hb;split at hb;rename_i y hof;simp only[aY]at hb;obtain⟨zs,hzs,hyz⟩:=hb;simp at hyz;subst hyz;have hik:i=k:=by simpa using hi 0 i v av rfl
  subst hik;obtain⟨fh,Ub,SC,X7⟩:=h.hands i v av (by simpa using hp 0 i v av rfl);cases av with
  |yY ts=>exfalso;revert hof;simp only[AV.cells];intro hof;have:=tN (c:=dy C g st w) (vs:=[undef]) (cs:=[.bot]) (fp:=[]) ⟨[],[],rfl,rfl,rfl⟩ hof;obtain⟨f1,f2,_,ix,_⟩:=this;have h1:=fZ.oT ix undef (by cases hz:e.size with|zero=>have:=e.size_pos;omega|succ n=>simp);cases h1
  |val gg vs=>
   simp only[AV.cells]at hof;obtain⟨us,gb,hrh⟩:=Ub;obtain⟨f1,f2,asE,ix,oI⟩:=tN hrh hof;have XZ:us.drop e.size=[]/\f2=[]:=by cases hd:us.drop e.size with|nil=>rw[hd]at oI;exact⟨rfl,oI⟩|cons p q=>rw[hd]at oI;exact oI.elim
   have hul:us.length<=e.size:=by have:=XZ.1;rw[List.drop_eq_nil_iff]at this;exact this
   rw[bZ hul]at ix;have alP:us.length=e.size:=fZ.length ix;have h1:=fZ.oT ix;have EW:=MP gb h1;have aer:arr.size=i*e.size+(parts.length+1)*e.size:=by rw[wv,bp,dg]
   have hpe:e.size<=(parts.length+1)*e.size:=by rw[dg,fT];omega
   have iW:i*e.size+us.length<=arr.size:=by omega
   have SQ:fh=f1:=by rw[asE,XZ.2,bg]
   subst SQ;have vF:(fP arr (i*e.size) us).toList.take ((i+1)*e.size)=arr.toList.take (i*e.size)++us:=by
    rw[yq us arr _ iW];have hl1:(arr.toList.take (i*e.size)++us).length=(i+1)*e.size:=by rw[aq,bt,dg,fT,alP];simp;omega
    rw[List.take_append_of_le_length (by omega),bZ (by omega)]
   have aaX:mq g.hw w e us [y] [fh]:=by refine⟨by simp[alP],rfl,λj z f hz hf=>?_⟩;cases j with|zero=>simp at hz hf;subst hz;subst hf;rw[Nat.zero_mul,fR,bZ (by omega)];exact ix|succ j=>simp at hz
   have asB:mq g.hw w e ((fP arr (i*e.size) us).toList.take ((i+1)*e.size)) (xs++[y]) (fps++[fh]):=by rw[vF];exact HJ.append aaX
   have Fs:∀b∈fh,b∉fps.flatten:=by intro b iq hm;obtain⟨j,hj,hlj⟩:=hl b hm;rw[X7 b iq]at hlj;simp at hlj;omega
   obtain⟨kq,aaO,hf,wu,als,Hn,B4⟩:=YB h parts (i+1) (fP arr (i*e.size) us) (xs++[y]) (fps++[fh]) zs (λj i' v' SI hj=>by have:=hp (j+1) i' v' SI (by simpa using hj);rwa[show i+(j+1)=i+1+j by omega]at this) (λj i' v' SI hj=>by have:=hi (j+1) i' v' SI (by simpa using hj);omega) (by simp[hk]) (by rw[jR,wv,bp];congr 1;omega) asB (by simp only[dY,List.flatten_cons,List.flatten_nil,bg];refine aN.2 ⟨hn,SC,?_⟩;rintro b iq c BF rfl;exact Fs b BF iq) (λb iq=>by simp only[dY,List.flatten_cons,List.flatten_nil,bg,aB]at iq;rcases iq with iq|iq;obtain⟨j,hj,hlj⟩:=hl b iq;exact⟨j,by omega,hlj⟩;exact⟨i,by omega,X7 b iq⟩) hzs;refine⟨kq,aaO,?_,by rw[wu,jR],by simpa using als,Hn,B4⟩;rw[fb,TX (by rw[alP]) EW iW];exact hf
  cases hb
theorem Lr:∀{n:Nat}{l:ax (Nat×Operand)},Lq n l=true->∀j i x,l[j]?=some (i,x)->i=n+j
 |_,[],_,j,i,x,h=>by simp at h
 |n,(m,y)::l,h,0,i,x,hj=>by simp only[Lq,ah,bD]at h;simp at hj;rw[<-hj.1];exact h.1
 |n,(m,y)::l,h,j+1,i,x,hj=>by simp only[Lq,ah,bD]at h;have:=Lr h.2 j i x (by simpa using hj);omega
theorem OR {E:Env}(hE:kQ P E.ty){o:Oper}{len:Nat}(ho:o.op=.buildSlice T len parts)(h:qo C st a w){K:AS->aA R}(hk:nC E o T len parts.toList st K=some r):oK P C o a w K r:=by
 obtain⟨g,hg⟩:=h;unfold nC at hk;split at hk;rename_i e hT;split at hk;rename_i hc;obtain⟨C1,QP,hlen⟩:=hc;split at hk;rename_i vs cp vF;split at hk;rename_i xs asJ;obtain⟨g',qn,hvl,BG⟩:=hg.fV (parts.toList.map (·.2));rw[vF]at qn hvl;simp only[bU]at qn hvl;obtain⟨te,hu,⟨inf,z,Fu,wv,hby,hz,hzc⟩,hsm⟩:=Ie hE hT;have hl1:(parts.toList.map (·.1)).length=((parts.toList.map (·.2)).map a.eval).length:=by simp
 have B4:((parts.toList.map (·.2)).map a.eval).length=vs.length:=by rw[hvl];simp
 obtain⟨ps,p1,p2,p3⟩:=ami (parts.toList.map (·.1)) ((parts.toList.map (·.2)).map a.eval) vs hl1 B4;have asT:ps.length=len:=by have:=congrArg List.length p1;simp at this;rw[this,<-C1];simp
 have amR:FD e (ps.map λx=>x.2.2.cells)=some xs:=by
  rw[<-asJ];congr 1;have:(ps.map λx=>x.2.2.cells)=(ps.map λx=>(x.1,x.2.2)).map (λy=>y.2.cells):=by simp
  rw[this,p2];have h2:((parts.toList.map (·.1)).zip vs).map (λy=>y.2.cells)=(((parts.toList.map (·.1)).zip vs).map Prod.snd).map AV.cells:=by simp
  rw[h2,List.map_snd_zip (by rw[<-B4,<-hl1];exact bc _)]
 have aaY:(parts.map λ(i,x)=>(i,a.eval x)).toList=ps.map λx=>(x.1,x.2.1):=by rw[p1];apply dB;intro j;simp[List.zip_eq_zipWith]
 have hzs:z.cells.size=e.size:=by rw[<-rR e,<-hzc];simp
 let amv:Array Value:=madeCells (if len*e.size=0 then #[] else z.cells) (len*e.size);have ha0:amv.size=len*e.size:=size_madeCells _ _
 obtain⟨kq,aaO,ahn,wu,HJ,D5,hl'⟩:=YB qn (e:=e) ps 0 amv [] [] xs
  (λj i v av hj=>by
   have h1:(ps.map λx=>(x.2.1,x.2.2))[j]?=some (v,av):=by simp[hj]
   rw[p3]at h1;simpa using h1)
  (λj i v av hj=>by
   have h1:(ps.map λx=>(x.1,x.2.1))[j]?=some (i,v):=by simp[hj]
   rw[p1]at h1;rw[List.getElem?_zip_eq_some]at h1;have h2:=h1.1;rw[List.getElem?_map]at h2;cases hq:parts.toList[j]? with|none=>rw[hq]at h2;cases h2|some q=>rw[hq]at h2;simp at h2;have:=Lr QP j q.1 q.2 hq;omega) rfl (by rw[ha0,asT];simp) (by simpa using mq.nil _ _ _) (by simp) (by simp) amR
 have hxl:xs.length=len:=by have h1:=HJ.1;rw[Array.length_toList,wu,ha0,bU]at h1;exact(Nat.eq_of_mul_eq_mul_right e.size_pos h1).symm
 have asW:¬(16777216<len*e.size):=by have:len*e.size<=1000*4096:=Nat.mul_le_mul hlen hsm;omega
 have fz:(execOp a.eval o).run P w=.ok (.value (.slice (some ⟨w.heap.size,0,none⟩) len len)) (w.alloc (.cells kq te)):=by
  have VY:Instr.fill (λi=>some (i*e.size,e.size)) ((Array.range (len*e.size)).map ((if len*e.size=0 then(#[]:Array Value) else z.cells)[·%(if len*e.size=0 then(#[]:Array Value) else z.cells).size]!)) (parts.map λ(i,x)=>(i,a.eval x)).toList=some kq:=by rw[aaY];exact ahn
  by_cases h0:len*e.size=0;rw[aI h0]at VY;simp only[execOp,ho,Instr.buildSlice,underlying,Sem.run_bind,run_program,hu,Result.andThen_ok,Sem.run_pure,sizeOf,typeInfo,Fu,wv];rw[lH,aI h0];simp only[Sem.run_pure,Result.andThen_ok,VY,newRow,Sem.run_bind,run_newObj];rfl;rw[aK h0]at VY;simp only[execOp,ho,Instr.buildSlice,underlying,Sem.run_bind,run_program,hu,Result.andThen_ok,Sem.run_pure,sizeOf,typeInfo,Fu,wv];rw[lH,aK h0];simp only[zeroValue,typeInfo,Sem.run_bind,run_program,Fu,hz,Sem.run_pure,Result.andThen_ok,VY,newRow,run_newObj];rfl
 refine⟨_,_,_,.inl fz,?_,hk⟩;have als:mq g'.hw w e (kq.toList.take (xs.length*e.size)) xs aaO:=by rw[bZ (by rw[Array.length_toList,wu,ha0,hxl];exact bc _)];simpa using HJ
 have:=qn.Rt o.dst (T:=te) (fr:=(0,0)) (cap:=len) (.inl rfl) (by intro j _;simp) (by rw[wu,ha0]) (by omega) als D5 (λb hb=>by obtain⟨j,hj⟩:=hl' b hb;rw[hj];rfl);rw[hxl]at this;exact this;cases hk;cases hk;cases hk
end Go.Dn
