import Derived.Test.YtehfjiddofkdnaaGreatDnOps5
/- Part 6: structs and slices that are built; append. -/
open Option renaming some->I
namespace Go.Dn
open Go.RowKit
variable {P:Program} {C:Ctx} {st:AS} {a:Act} {w:World} {R:Type} {r:R}
variable {parts:Array (Nat×Operand)} {place:Nat->aS (Nat×Nat)} {T:TypeId} {hs:Z (Value×AV)}
theorem fL.gQ:∀(b:Z Operand){g:Gh}{st:AS}{hs:Z (Value×AV)},fL C g st a w hs->
 ∃d,fL C d (gQ st b).2 a w (hs++(b.map a.eval).zip (gQ st b).1)/\(gQ st b).1.length=b.length/\(gQ st b).2.ep=st.ep
 |[],g,st,hs,h=>⟨g,by simpa[Dn.gQ]using h,rfl,rfl⟩
 |x::b,g,st,hs,h=>by obtain⟨k,f⟩:=h.take x;obtain⟨e,i,j,c⟩:=fL.gQ b f;refine⟨e,?_,by simp[Dn.gQ,j],by simp only[Dn.gQ];rw[c,adp]⟩;simpa[Dn.gQ]using i
theorem afY {α β:Type}(f:α->Sem β)(a:α->β)(w:World):∀(l:Z α),(∀x∈l,(f x).run P w=.ok (a x) w)->(l.mapM f).run P w=.ok (l.map a) w
 |[],_=>aD
 |x::l,h=>by rw[List.mapM_cons];simp only[Sem.run_bind,h x aD,Result.andThen_ok,afY f a w l (λy b=>h y (cy _ b)),Sem.run_pure,gC]
theorem LC {α β:Type}(f:α->Sem β)a w(l:Array α)(h:∀x∈l,(f x).run P w=.ok (a x) w):(l.mapM f).run P w=.ok (l.map a) w:=by rw[Array.mapM_eq_mapM_toList,Sem.run_map,afY f a w l.toList (λx b=>h x (by simpa using b))];simp only[Result.andThen_ok,Result.ok.injEq,lJ];apply gV;simp
theorem YH c:∀(a:Array Value)(b j:Nat),((c.zipIdx j).foldl (λd (x:Value×Nat)=>d.setIfInBounds (b+x.2) x.1) a)=gv a (b+j) c:=by induction c with|nil=>intro a b j;rfl|cons u c e=>intro a b j;rw[List.zipIdx_cons,List.foldl_cons,e];rfl
theorem Z6 {cells i v b a c}(h:place i=I (a,c.length))(f:v.cells.toList=c)(g:a+c.length<=cells.size):Instr.fill place cells ((i,v)::b)=Instr.fill place (gv cells a c) b:=by
 have d:v.cells.size=c.length:=by rw[<-f];simp
 rw[Instr.fill,h];simp only[d];rw[aK (by simp;omega)];congr 1;have:v.cells=c.toArray:=by apply gV;simpa using f
 rw[this];have e:=YH c cells a 0;rw[eY]at e;rw[<-e];rw[<-Array.foldl_toList];simp
theorem an5 {b c a n}(h:c.length=n):fV b a c=b.take a++c++b.drop (a+n):=by simp only[fV];rw[h]
theorem V7 {g:Gh}(h:fL C g st a w hs){nt:Z (Nat×Nat)}(F:∀i fo n,nt[i]?=I (fo,n)->place i=I (fo,n)):
 ∀(parts:Z (Nat×Value×AV))(k:Nat)(e:Array Value)(zs:Z AC)(t:gw)(z:Z AC),(∀j i v s,parts[j]?=I (i,v,s)->hs[k+j]?=I (v,s))->
  cv (dQ C g st w) e.toList zs t->t.Nodup->(∀b∈t,∃j,j<k/\g.gb b=I (.hand j))->
  Eb nt zs (parts.map λx=>(x.1,x.2.2.cells))=I z->
  ∃q p,Instr.fill place e (parts.map λx=>(x.1,x.2.1))=I q/\cv (dQ C g st w) q.toList z p/\p.Nodup/\∀b∈p,∃j,g.gb b=I (.hand j)
 |[],k,e,zs,t,z,_,K,R,D,o=>by simp[Eb]at o;subst o;exact⟨e,t,rfl,K,R,λb o=>let ⟨j,_,u⟩:=D b o;⟨j,u⟩⟩
 |(i,v,s)::parts,k,e,zs,t,z,hp,K,R,D,o=>by
  simp only[gC,Eb,fJ]at o;split at o;rename_i f n V;split at o;rename_i N;obtain⟨H,hrv,T,E⟩:=h.hands k v s (by simpa using hp 0 i v s rfl);cases s with
  |DZ ts=>simp[AV.cells,AC.RK]at N
  |val gg vs=>
   simp only[AV.cells]at N o;obtain⟨y,WO,r⟩:=hrv;have hul:=r.length;have h1:=r.rQ N.2.2;have P:=Sz WO h1;have M:=K.length;have aBw:e.size=zs.length:=by simpa using M
   have B:f+y.length<=e.size:=J;have X:place i=I (f,y.length):=by rw[F i f n V];congr 2;omega
   obtain⟨f1,f2,f3,rfl,r1,r2,r3⟩:=K.mid f y.length;have Y:cv (dQ C g st w) (gv e f y).toList (fV zs f vs) (f1++H++f3):=by rw[Dk y e f B,an5 hul.symm];exact(r1.append r).append r3
   have A:∀b∈H,b∉f1++f2++f3:=by intro b d hm;obtain⟨j,u,m⟩:=D b hm;rw[E b d]at m;simp at m;omega
   have YJ:=R;rw[aH]at YJ;have n1:=aX.1 YJ;have n2:=aX.1 n1.2.1;have U:(f1++H++f3).Nodup:=by rw[aH];refine aX.2 ⟨n1.1,aX.2 ⟨T,n2.2.1,?_⟩,?_⟩;rintro b d c l rfl;exact A b d (by simp[l]);rintro b d c l rfl;rcases aB.1 l with l|l;exact A b l (by simp[d]);exact n1.2.2 b d b (bC _ l) rfl
   obtain⟨q,p,hf,aDK,S,Q⟩:=V7 h F parts (k+1) (gv e f y) (fV zs f vs) (f1++H++f3) z (λj i' v' L u=>by have:=hp (j+1) i' v' L (by simpa using u);rwa[(J:k+(j+1)=k+1+j)]at this) Y U (λb d=>by simp only[aB]at d;rcases d with(d|d)|d;obtain⟨j,u,m⟩:=D b (by simp[d]);exact⟨j,J,m⟩;exact⟨k,J,E b d⟩;obtain⟨j,u,m⟩:=D b (by simp[d]);exact⟨j,J,m⟩) o;refine⟨q,p,?_,aDK,S,Q⟩;rw[gC,Z6 X P B];exact hf
  cases o;cases o
theorem at7 {α β b:Type}:∀(l:Z α)(m:Z β)(n:Z b),l.length=m.length->m.length=n.length->
 ∃a:Z (α×β×b),a.map (λx=>(x.1,x.2.1))=l.zip m/\a.map (λx=>(x.1,x.2.2))=l.zip n/\a.map (λx=>(x.2.1,x.2.2))=m.zip n
 |[],[],[],_,_=>⟨[],rfl,rfl,rfl⟩
 |x::l,y::m,z::n,c,d=>by obtain⟨a,e,f,g⟩:=at7 l m n (by simpa using c) (by simpa using d);exact⟨(x,y,z)::a,by simp[e],by simp[f],by simp[g]⟩
 |[],_::_,_,h,_=>by simp at h
 |_::_,[],_,h,_=>by simp at h
 |[],[],_::_,_,h=>by simp at h
 |_::_,_::_,[],_,h=>by simp at h
theorem ahj {E}(hE:mL P E.ty){o}(U:o.op=.build T parts)(h:ub C st a w){K}(l:JF E o T parts.toList st K=I r):rD P C o a w K r:=by
 obtain⟨g,hg⟩:=h;unfold JF at l;split at l;rename_i ct nt hT;split at l;rename_i vs st' htk;split at l;rename_i cs A;obtain⟨g',c,d,hep⟩:=hg.gQ (parts.toList.map (·.2));rw[htk]at c d;simp only[bF]at c d;have m:=hE T _ hT;obtain⟨inf,z,M,hsz,_,hz,hzc⟩:=m.elem.info;obtain⟨k,u,J⟩:=m.agg rfl;have D:=m.count rfl k u;have Y:(k.mapM λf=>do pure (f.offset,<-sizeOf f.type):Sem (Array (Nat×Nat))).run P w=.ok (k.map λf=>(f.offset,P.cellsOf f.type)) w:=by refine LC _ _ w k (λf hf=>?_);obtain⟨i,L,rfl⟩:=Array.mem_iff_getElem.1 hf;obtain⟨aEu,N⟩:=D i k[i] (Array.getElem?_eq_getElem L);simp[sizeOf,typeInfo,N,Program.cellsOf]
 have X:∀(i fo n:Nat),nt[i]?=I (fo,n)->(λ(i:Nat)=>(k.map λf=>(f.offset,P.cellsOf f.type))[i]?) i=I (fo,n):=by intro i fo n L;obtain⟨fd,F,q,_,aEu,h2,h3⟩:=J i fo n L;simp only[Array.getElem?_map,F,eP,q,Program.cellsOf,h2,h3,gj]
 have hzero:cv (dQ C g' st' w) z.cells.toList (cellsOf ct (.own none) ct.zero) []:=by rw[hzc];exact Cg (NQ _ _ _)
 have R:(parts.toList.map (·.1)).length=((parts.toList.map (·.2)).map a.eval).length:=aD;have S:((parts.toList.map (·.2)).map a.eval).length=vs.length:=by rw[d];simp
 obtain⟨p,p1,p2,p3⟩:=at7 (parts.toList.map (·.1)) ((parts.toList.map (·.2)).map a.eval) vs R S;have B:Eb nt (cellsOf ct (.own none) ct.zero) (p.map λx=>(x.1,x.2.2.cells))=I cs:=by rw[<-A];congr 1;have:(p.map λx=>(x.1,x.2.2.cells))=(p.map λx=>(x.1,x.2.2)).map (λy=>(y.1,y.2.cells)):=aD;rw[this,p2,List.zip_map_right];simp
 obtain⟨e,fp',H,Z,YJ,Q⟩:=V7 c (place:=λ(i:Nat)=>(k.map λf=>(f.offset,P.cellsOf f.type))[i]?) X p 0 z.cells _ [] cs
  (λj i v av s=>by
   have q:(p.map λx=>(x.2.1,x.2.2))[j]?=I (v,av):=by simp[s]
   rw[p3]at q;simpa using q) hzero aD aD B
 have V:(parts.map λ(i,x)=>(i,a.eval x)).toList=p.map λx=>(x.1,x.2.1):=by rw[p1];apply dK;intro j;simp[List.zip_eq_zipWith]
 have MX:(execOp a.eval o).run P w=.ok (.value (.agg e)) w:=by simp only[execOp,U,Instr.build,zeroValue,typeInfo,underlying,Sem.run_bind,run_program,M,hz,u,Result.andThen_ok,Sem.run_pure,Y,V,H]
 refine⟨.agg e,w,_,.inl MX,?_,l⟩;exact c.XL o.dst rfl rfl rfl rfl (λt ht=>⟨ht,rfl⟩) (Fr.refl _ _) (λ_ _ _ _=>rfl) (λ_ _ _ U u=>⟨U,u⟩) ⟨e.toList,by simp[Cut],Z⟩ YJ (λb hb=>by obtain⟨j,s⟩:=Q b hb;exact⟨(c.ju b _ s).1,.inl (by rw[s];rfl)⟩);cases l;cases l
theorem afa {g:Gh}(h:fL C g st a w hs){e:CT}:
 ∀(parts:Z (Nat×Value×AV))(k:Nat)(d:Array Value)(P:Z e.D)(m:Z gw)(ys:Z e.D),(∀j i v B,parts[j]?=I (i,v,B)->hs[k+j]?=I (v,B))->
  (∀j i v B,parts[j]?=I (i,v,B)->i=k+j)->P.length=k->d.size=(k+parts.length)*e.size->
  oq g.hw w e (d.toList.take (k*e.size)) P m->m.flatten.Nodup->(∀b∈m.flatten,∃j,j<k/\g.gb b=I (.hand j))->
  Ku e (parts.map λx=>x.2.2.cells)=I ys->
  ∃s t,Instr.fill (λi=>I (i*e.size,e.size)) d (parts.map λx=>(x.1,x.2.1))=I s/\s.size=d.size/\oq g.hw w e s.toList (P++ys) t/\t.flatten.Nodup/\∀b∈t.flatten,∃j,g.gb b=I (.hand j)
 |[],k,d,P,m,ys,_,_,hk,K,E,hn,X,A=>by simp[Ku]at A;subst A;have:d.toList.take (k*e.size)=d.toList:=cd (by simp at K⊢;omega);rw[this]at E;exact⟨d,m,rfl,rfl,by simpa using E,hn,λb A=>let ⟨j,_,M⟩:=X b A;⟨j,M⟩⟩
 |(i,v,B)::parts,k,d,P,m,ys,hp,hi,hk,K,E,hn,X,A=>by
  simp only[gC,Ku]at A;split at A;rename_i y u;simp only[br]at A;obtain⟨zs,hzs,U⟩:=A;simp at U;subst U;have hik:i=k:=by simpa using hi 0 i v B rfl
  subst hik;obtain⟨Q,hrv,hnh,T⟩:=h.hands i v B (by simpa using hp 0 i v B rfl);cases B with
  |DZ ts=>exfalso;revert u;simp only[AV.cells];intro u;have:=xT (c:=dQ C g st w) (vs:=[undef]) (cs:=[.bot]) (fp:=[]) ⟨[],[],rfl,rfl,rfl⟩ u;obtain⟨f1,f2,_,o,_⟩:=this;have h1:=gX.rQ o undef (by cases Y:e.size with|zero=>have:=e.size_pos;omega|succ n=>simp);cases h1
  |val gg vs=>
   simp only[AV.cells]at u;obtain⟨r,WO,hrh⟩:=hrv;obtain⟨f1,f2,aCu,o,H⟩:=xT hrh u;have R:r.drop e.size=[]/\f2=[]:=by cases hd:r.drop e.size with|nil=>rw[hd]at H;exact⟨rfl,H⟩|cons p q=>rw[hd]at H;exact H.elim
   have hul:r.length<=e.size:=by have:=R.1;rw[List.drop_eq_nil_iff]at this;exact this
   rw[cd hul]at o;have N:r.length=e.size:=gX.length o;have h1:=gX.rQ o;have aCe:=Sz WO h1;have al8:d.size=i*e.size+(parts.length+1)*e.size:=by rw[K,bj,dA]
   have hpe:e.size<=(parts.length+1)*e.size:=by rw[dA,gJ];omega
   have S:i*e.size+r.length<=d.size:=J;have hfh:Q=f1:=by rw[aCu,R.2,bm]
   subst hfh;have htk:(gv d (i*e.size) r).toList.take ((i+1)*e.size)=d.toList.take (i*e.size)++r:=by
    rw[Dk r d _ S];have hl1:(d.toList.take (i*e.size)++r).length=(i+1)*e.size:=by rw[aq,bp,dA,gJ,N];simp;omega
    rw[List.take_append_of_le_length J,cd J]
   have aDu:oq g.hw w e r [y] [Q]:=by refine⟨by simp[N],rfl,λj z f Y V=>?_⟩;cases j with|zero=>simp at Y V;subst Y;subst V;rw[Nat.zero_mul,ik,cd J];exact o|succ j=>simp at Y
   have aCq:oq g.hw w e ((gv d (i*e.size) r).toList.take ((i+1)*e.size)) (P++[y]) (m++[Q]):=by rw[htk];exact E.append aDu
   have aCl:∀b∈Q,b∉m.flatten:=by intro b l hm;obtain⟨j,M,F⟩:=X b hm;rw[T b l]at F;simp at F;omega
   obtain⟨s,t,V,hs',aCr,hn2,hl2⟩:=afa h parts (i+1) (gv d (i*e.size) r) (P++[y]) (m++[Q]) zs (λj i' v' L M=>by have:=hp (j+1) i' v' L (by simpa using M);rwa[(J:i+(j+1)=i+1+j)]at this) (λj i' v' L M=>by have:=hi (j+1) i' v' L (by simpa using M);omega) (by simp[hk]) (by rw[lr,K,bj];congr 1;omega) aCq (by simp only[eX,List.flatten_cons,List.flatten_nil,bm];refine aX.2 ⟨hn,hnh,?_⟩;rintro b l c hc' rfl;exact aCl b hc' l) (λb l=>by simp only[eX,List.flatten_cons,List.flatten_nil,bm,aB]at l;rcases l with l|l;obtain⟨j,M,F⟩:=X b l;exact⟨j,J,F⟩;exact⟨i,J,T b l⟩) hzs;refine⟨s,t,?_,by rw[hs',lr],by simpa using aCr,hn2,hl2⟩;rw[gC,Z6 (by rw[N]) aCe S];exact V
  cases A
theorem Q6:∀{n:Nat}{l:Z (Nat×Operand)},Q5 n l=true->∀j i x,l[j]?=I (i,x)->i=n+j
 |_,[],_,j,i,x,h=>by simp at h
 |n,(m,y)::l,h,0,i,x,a=>by simp only[Q5,af,bw]at h;simp at a;rw[<-a.1];exact h.1
 |n,(m,y)::l,h,j+1,i,x,a=>by simp only[Q5,af,bw]at h;have:=Q6 h.2 j i x (by simpa using a);omega
theorem UY {E}(hE:mL P E.ty){o len}(ho:o.op=.buildSlice T len parts)(h:ub C st a w){K}(l:qg E o T len parts.toList st K=I r):rD P C o a w K r:=by
 obtain⟨g,hg⟩:=h;unfold qg at l;split at l;rename_i e hT;split at l;rename_i hc;obtain⟨hpl,Y,L⟩:=hc;split at l;rename_i S st' htk;split at l;rename_i Q aC6;obtain⟨g',k,u,hep⟩:=hg.gQ (parts.toList.map (·.2));rw[htk]at k u;simp only[bF]at k u;obtain⟨te,hu,⟨inf,z,s,M,hby,hz,hzc⟩,hsm⟩:=Nu hE hT;have F:(parts.toList.map (·.1)).length=((parts.toList.map (·.2)).map a.eval).length:=aD;have H:((parts.toList.map (·.2)).map a.eval).length=S.length:=by rw[u];simp
 obtain⟨m,p1,p2,p3⟩:=at7 (parts.toList.map (·.1)) ((parts.toList.map (·.2)).map a.eval) S F H;have aDF:m.length=len:=by have:=congrArg List.length p1;simp at this;rw[this,<-hpl];simp
 have aC7:Ku e (m.map λx=>x.2.2.cells)=I Q:=by rw[<-aC6];congr 1;have:(m.map λx=>x.2.2.cells)=(m.map λx=>(x.1,x.2.2)).map (λy=>y.2.cells):=aD;rw[this,p2];have p:((parts.toList.map (·.1)).zip S).map (λy=>y.2.cells)=(((parts.toList.map (·.1)).zip S).map Prod.snd).map AV.cells:=aD;rw[p,List.map_snd_zip (by rw[<-H,<-F];exact bq _)]
 have aDA:(parts.map λ(i,x)=>(i,a.eval x)).toList=m.map λx=>(x.1,x.2.1):=by rw[p1];apply dK;intro j;simp[List.zip_eq_zipWith]
 have hzs:z.cells.size=e.size:=by rw[<-vZ e,<-hzc];simp
 let A:Array Value:=madeCells (if len*e.size=0 then #[] else z.cells) (len*e.size);have d:A.size=len*e.size:=size_madeCells _ _
 obtain⟨n,U,X,t,B,YJ,Z⟩:=afa k (e:=e) m 0 A [] [] Q
  (λj i v av D=>by
   have c:(m.map λx=>(x.2.1,x.2.2))[j]?=I (v,av):=by simp[D]
   rw[p3]at c;simpa using c)
  (λj i v av D=>by
   have c:(m.map λx=>(x.1,x.2.1))[j]?=I (i,v):=by simp[D]
   rw[p1]at c;rw[List.getElem?_zip_eq_some]at c;have p:=c.1;rw[gz]at p;cases hq:parts.toList[j]? with|none=>rw[hq]at p;cases p|some q=>rw[hq]at p;simp at p;have:=Q6 Y j q.1 q.2 hq;omega) rfl (by rw[d,aDF];simp) (by simpa using oq.nil _ _ _) aD aD aC7
 have N:Q.length=len:=by have c:=B.1;rw[Array.length_toList,t,d,bF]at c;exact(Nat.eq_of_mul_eq_mul_right e.size_pos c).symm
 have aD4:¬(16777216<len*e.size):=by have:len*e.size<=1000*4096:=Nat.mul_le_mul L hsm;omega
 have MX:(execOp a.eval o).run P w=.ok (.value (.slice (I ⟨w.heap.size,0,none⟩) len len)) (w.alloc (.cells n te)):=by
  have f:Instr.fill (λi=>I (i*e.size,e.size)) ((Array.range (len*e.size)).map ((if len*e.size=0 then(#[]:Array Value) else z.cells)[·%(if len*e.size=0 then(#[]:Array Value) else z.cells).size]!)) (parts.map λ(i,x)=>(i,a.eval x)).toList=I n:=by rw[aDA];exact X
  by_cases R:len*e.size=0;rw[aI R]at f;simp only[execOp,ho,Instr.buildSlice,underlying,Sem.run_bind,run_program,hu,Result.andThen_ok,Sem.run_pure,sizeOf,typeInfo,s,M];rw[nQ,aI R];simp only[Sem.run_pure,Result.andThen_ok,f,newRow,Sem.run_bind,run_newObj];rfl;rw[aK R]at f;simp only[execOp,ho,Instr.buildSlice,underlying,Sem.run_bind,run_program,hu,Result.andThen_ok,Sem.run_pure,sizeOf,typeInfo,s,M];rw[nQ,aK R];simp only[zeroValue,typeInfo,Sem.run_bind,run_program,s,hz,Sem.run_pure,Result.andThen_ok,f,newRow,run_newObj];rfl
 refine⟨_,_,_,.inl MX,?_,l⟩;have V:oq g'.hw w e (n.toList.take (Q.length*e.size)) Q U:=by rw[cd (by rw[Array.length_toList,t,d,N];exact bq _)];simpa using B
 have:=k.Xu o.dst (T:=te) (fr:=(0,0)) (cap:=len) (.inl rfl) (by intro j _;simp) (by rw[t,d]) J V YJ (λb hb=>by obtain⟨j,D⟩:=Z b hb;rw[D];rfl);rw[N]at this;exact this;cases l;cases l;cases l
end Go.Dn
