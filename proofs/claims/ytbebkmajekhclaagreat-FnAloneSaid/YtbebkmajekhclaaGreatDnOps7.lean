import Derived.Test.YtbebkmajekhclaaGreatDnOps6
/- Part 7: append. -/
namespace Go.Dn
open Go.RowKit
variable {P:Program} {C:Ctx} {st:AS} {a:Act} {w:World} {R:Type} {r:R}
variable {e:CT} {hw:Nat->Nat}
structure Src (P:Program) (w:World) (size:Nat) (u:Value) (m:Nat) (news:List Value):Prop where
 len:∀w1:World,(Builtin.lenOf u).run P w1=.ok m w1
 first:∀w1:World,w1.heap=w.heap->(Builtin.firstCells size m u).run P w1=.ok news.toArray w1
theorem ZS {t t' ty te:TypeId}(ht:P.underlying t=some (.slice te))(he:NW P te e){dt:TypeDesc}(ZH:P.underlying t'=some dt)(hdt:∀k,dt≠ .int k){v u:Value}{xs ys:aw e.D}{fp:fE}{news:jd}{Ab:aw fE}(ik:fQ hw w (.sl e) [v] xs fp)(Jz:Src P w e.size u ys.length news)(FP:kT hw w e news ys Ab)(gF:∀b∈fp++Ab.flatten,b<w.heap.size)(GX:(fp++Ab.flatten).Nodup)(Hz:xs.length+ys.length<=1073741824): ∃v' w' hw' kK,(Builtin.append_ #[t,t'] ty #[v,u]).run P w=.ok v' w'/\fQ hw' w' (.sl e) [v'] (xs++ys) kK/\Fr (λb=>b∈fp) w w'/\(∀b,b<w.heap.size->b∉fp->hw' b=hw b)/\ (∀b o x,o<hw b->w.cell? ⟨b,o,none⟩=some x->o<hw' b/\w'.cell? ⟨b,o,none⟩=some x)/\kK.Nodup/\∀b∈kK,b<w'.heap.size/\(b∈fp\/b∈Ab.flatten\/w.heap.size<=b):=by
 obtain⟨⟨inf,z,DG,vB,hby,hz,hzc⟩,_⟩:=he;have hzs:z.cells.size=e.size:=by rw[<-qA e,<-hzc];simp
 have ae2:=e.size_pos;have hnz:(match dt with| .int _=>true|_=>false)=false:=by cases dt<;>simp;exact absurd rfl (hdt _)
 have Ux:=Jz.first w rfl
 have ali:=Jz.first w.drew rfl
 have hlen:=Jz.len;have Mm:=FP.1;have h63:¬((xs.length+ys.length:Nat):Int)>IntKind.i64.max:=by
  have:IntKind.i64.max=9223372036854775807:=by decide
  omega
 have grow:∀(U5:jd)(P2:Nat)(fps:aw fE),(∀w1:World,w1.heap=w.heap->(Builtin.firstCells e.size xs.length v).run P w1=.ok U5.toArray w1)->(∃base,v=.slice base xs.length P2)->P2<xs.length+ys.length->
  kT hw w e U5 xs fps->(fps.flatten++Ab.flatten).Nodup->(∀b∈fps.flatten,b∈fp)->
  ∃v' w' hw' kK,(Builtin.append_ #[t,t'] ty #[v,u]).run P w=.ok v' w'/\fQ hw' w' (.sl e) [v'] (xs++ys) kK/\Fr (λb=>b∈fp) w w'/\(∀b,b<w.heap.size->b∉fp->hw' b=hw b)/\
  (∀b o x,o<hw b->w.cell? ⟨b,o,none⟩=some x->o<hw' b/\w'.cell? ⟨b,o,none⟩=some x)/\kK.Nodup/\∀b∈kK,b<w'.heap.size/\(b∈fp\/b∈Ab.flatten\/w.heap.size<=b):=by
  intro U5 P2 fps hold ap5 Jt Uv avz qO
  obtain⟨base,rfl⟩:=ap5
  have aqq:=hold w.drew rfl
  have ib:Builtin.nextslicecap (xs.length+ys.length) P2*inf.bytes<=281474976710656:=by refine growslice_fits Jt ?_;have:(xs.length+ys.length)*inf.bytes<=1073741824*65536:=Nat.mul_le_mul Hz hby;omega
  have eU:(Builtin.append_ #[t,t'] ty #[.slice base xs.length P2,u]).run P w=
   .ok (.slice (some ⟨w.heap.size,0,none⟩) (xs.length+ys.length) (grownCap w (xs.length+ys.length) P2 te))
    (w.drew.alloc (.cells (U5.toArray++news.toArray++Builtin.zeroCells z.cells (grownCap w (xs.length+ys.length) P2 te-(xs.length+ys.length))) te)):=by
   have h1:¬(xs.length+ys.length<=P2):=by omega
   have h2:¬(281474976710656<Builtin.nextslicecap (xs.length+ys.length) P2*inf.bytes):=by omega
   simp only[Builtin.append_]
   simp only[underlying,Sem.run_bind,run_program,ht,ZH,Result.andThen_ok,Sem.run_pure,sizeOf,typeInfo,DG,vB,List.getElem?_toArray,cC,fD,hlen,aK,bm,cv,
    h1,h63,false_and,cg,zeroValue,newRow]
   rw[aG (by simpa using h2)]
   simp only[Sem.run_bind,run_choose,Question.forced,bm,cv,Result.andThen_ok,run_program,DG,run_askRoom,Sem.run_pure]
   have e1:=aqq
   have e2:=ali
   simp only[World.drew]at e1 e2
   simp only[e1,e2,Result.andThen_ok,hz,Sem.run_pure,run_newObj]
   rfl
  have BQ:=grownCap_ge w (xs.length+ys.length) P2 te
  generalize grownCap w (xs.length+ys.length) P2 te=nc at eU BQ
  have avK:(Builtin.zeroCells z.cells (nc-(xs.length+ys.length))).size=(nc-(xs.length+ys.length))*e.size:=by rw[size_zeroCells,hzs]
  let jv:Array Value:=U5.toArray++news.toArray++Builtin.zeroCells z.cells (nc-(xs.length+ys.length))
  have hlo:=Uv.1
  have avf:jv.size=nc*e.size:=by show(U5.toArray++news.toArray++Builtin.zeroCells z.cells (nc-(xs.length+ys.length))).size=_;rw[Array.size_append,Array.size_append,avK];simp only[List.size_toArray,hlo,Mm,<-cM];congr 1;omega
  let hw':Nat->Nat:=λb=>if b=w.heap.size then(xs++ys).length*e.size else hw b
  have ae1:(w.drew.alloc (.cells jv te)).heap[w.heap.size]?=some (.cells jv te (0,0)):=heap_alloc_new w.drew _
  have amM:∀b,b<w.heap.size->(w.drew.alloc (.cells jv te)).heap[b]?=w.heap[b]?:=λb hb=>heap_alloc_old w.drew _ b hb
  have ue:jv.toList.take ((xs++ys).length*e.size)=U5++news:=by
   show(U5.toArray++news.toArray++Builtin.zeroCells z.cells (nc-(xs.length+ys.length))).toList.take _=_;rw[Array.toList_append,Array.toList_append];have:(U5++news).length=(xs++ys).length*e.size:=by simp only[ai,hlo,Mm,cM]
   rw[<-this];exact List.take_left
  have an2:∀b∈(fps++Ab).flatten,b<w.heap.size:=by intro b hb;rw[eI,az]at hb;exact gF b (by rcases hb with hb|hb;exact bH _ (qO b hb);exact bu _ hb)
  refine⟨_,_,hw',w.heap.size::(fps++Ab).flatten,eU,?_,?_,?_,?_,?_,?_⟩
  ·have:=ab4 (hw:=hw') (o0:=0) (xs:=xs++ys) (cap:=nc) ae1 (by intro j _;simp) (by rw[cx];exact avf) (by simp;omega) (by simp[hw']) (fps:=fps++Ab) (by rw[ez,ue];refine(Uv.append FP).mono (λb hb=>?_);have ix:=an2 b hb;exact⟨amM b ix,by simp[hw',iC ix]⟩)
   rw[ai]at this
   exact this
  ·exact(Fr.drew _ w).trans (Fr.alloc _ _ _) (λb _ hh=>hh)
  ·intro b hb _;simp[hw',iC hb]
  ·intro b o x ho hx
   have hb:b<w.heap.size:=World.block_lt_of_cell? w _ hx
   exact⟨by simp[hw',iC hb];exact ho,by rw[World.cell?_of_block (a:=⟨b,o,none⟩) (amM b hb)];exact hx⟩
  ·refine dD.2 ⟨λhm=>Nat.lt_irrefl _ (an2 _ hm),?_⟩
   rw[eI];exact avz
  ·intro b hb
   rcases bM.1 hb with rfl|hb
   ·exact⟨by simp,.inr (.inr (bh _))⟩
   ·have ix:=an2 b hb
    refine⟨by simp;omega,?_⟩
    rw[eI,az]at hb
    rcases hb with hb|hb
    ·exact .inl (qO b hb)
    ·exact .inr (.inl hb)
 obtain⟨vv,hvv,ho⟩:=id ik;simp at hvv;subst hvv;rcases ho with⟨⟨ad,rfl⟩,rfl,rfl⟩|⟨b,o0,cap,arr,T,fr,fps,rfl,hb,tN,hs,hc,hh,rfl,hl,ho⟩;have avo:∀w1:World,(Builtin.firstCells e.size ([]:aw e.D).length (.slice ad 0 0)).run P w1=.ok ([]:jd).toArray w1:=by intro w1;cases ad with|none=>simp[Builtin.firstCells]|some ad=>exact run_firstCells_some (P:=P) w1 e.size 0 ad 0 0 [] (by simp) (λj x hj=>by simp at hj)
 by_cases hm:ys.length=0;have hy:ys=[]:=cm hm;subst hy;refine⟨.slice ad 0 0,w,hw,[],?_,⟨_,rfl,.inl ⟨⟨_,rfl⟩,rfl,rfl⟩⟩,Fr.refl _ _,λ_ _ _=>rfl,λ_ _ _ ho hx=>⟨ho,hx⟩,by simp,by simp⟩;simp only[Builtin.append_];simp only[underlying,Sem.run_bind,run_program,ht,ZH,Result.andThen_ok,Sem.run_pure,sizeOf,typeInfo,DG,vB,List.getElem?_toArray,cC,fD,hlen,bm,cv,bw,cg];simp only[ed]at Ux;have aqn:news=[]:=cm (by rw[Mm];simp);subst aqn;simp[Ux];cases ad<;>simp[storeCells];refine grow [] 0 [] (λw1 _=>avo w1) ⟨ad,by simp⟩ (by simp;omega) (kT.nil _ _ _) (by simpa using GX) (by simp);have Uv:=Ly hs hc hl ho;have hln:o0+xs.length*e.size<=arr.size:=by rw[hs];exact Nat.add_le_add_left (cJ _ hc) _
 have hol:((arr.toList.drop o0).take (xs.length*e.size)).length=xs.length*e.size:=Uv.1;by_cases aiG:xs.length+ys.length<=cap;have ib:o0+xs.length*e.size+news.length<=arr.size:=by rw[Mm,hs,gi,<-cM];exact Nat.add_le_add_left (cJ _ aiG) _
 have nA:=xA P b (o0+xs.length*e.size) T fr news 0 w arr hb tN (by simpa using ib) FP.nR;simp only[eG]at nA;have eU:(Builtin.append_ #[t,t'] ty #[.slice (some ⟨b,o0,none⟩) xs.length cap,u]).run P w=.ok (.slice (some ⟨b,o0,none⟩) (xs.length+ys.length) cap) (vG w b (ff arr (o0+xs.length*e.size) news) T fr):=by simp only[Builtin.append_];simp only[underlying,Sem.run_bind,run_program,ht,ZH,Result.andThen_ok,Sem.run_pure,sizeOf,typeInfo,DG,vB,List.getElem?_toArray,cC,fD,hlen,bm,cv,bw,cg,aiG,Ux,nZ,nA]
 have GV:=na hb;rw[List.cons_append]at GX;have xH:b∉fps.flatten++Ab.flatten:=(dD.1 GX).1;let hw':Nat->Nat:=λc=>if c=b then o0+(xs++ys).length*e.size else hw c
 refine⟨_,_,hw',b::(fps++Ab).flatten,eU,?_,?_,?_,?_,?_,?_⟩;have ue:((ff arr (o0+xs.length*e.size) news).toList.drop o0).take ((xs++ys).length*e.size)=(arr.toList.drop o0).take (xs.length*e.size)++news:=by
  have h2:((arr.toList.drop o0).take (xs.length*e.size)++news).length=(xs++ys).length*e.size:=by simp only[ai,hol,Mm,cM]
  have h3:(xs++ys).length*e.size=xs.length*e.size+news.length:=by rw[ai,cM,Mm]
  apply cI;intro j;rw[jM];by_cases hj:j<(xs++ys).length*e.size;rw[aH hj,zM ib];by_cases h1:j<xs.length*e.size;rw[nX,bE (by omega),jM,aH h1];rw[zip,bz (by omega),hol];congr 1;omega;rw[aG hj,bC (by omega)]
 have:=ab4 (hw:=hw') (w:=vG w b (ff arr (o0+xs.length*e.size) news) T fr) (xs:=xs++ys) (cap:=cap) (fps:=fps++Ab) (yp GV) (λj hj=>tN j (by rwa[jb]at hj)) (by rw[jb];exact hs) (by simp;omega) (by simp[hw']) (by
  rw[ue];refine(Uv.append FP).mono (λc Co=>?_);have DK:c≠b:=by rintro rfl;exact xH (by rwa[eI]at Co)
  exact⟨nu DK,by simp[hw',DK]⟩)
 rw[ai]at this;exact this;exact⟨rfl,rfl,rfl,by rw[mB];exact bh _,λc _ Co=>nu (λe=>Co (by simp[e]))⟩;intro c _ Co;have DK:c≠b:=λe=>Co (by simp[e]);simp[hw',DK];intro c o x Ni hx;by_cases hcb:c=b;subst hcb;rw[hh]at Ni;refine⟨?_,?_⟩;simp only[hw',cg,ai,cM];omega;rw[pV (yp GV),<-cD,zM ib,nX,cD,<-pV hb];exact hx;exact⟨by simp[hw',hcb];exact Ni,by rw[World.cell?_of_block (a:=⟨c,o,none⟩) (nu hcb)];exact hx⟩;refine dD.2 ⟨by rw[eI];exact xH,?_⟩;rw[eI];exact(dD.1 GX).2;intro c Co;rw[mB];rcases bM.1 Co with rfl|Co;exact⟨GV,.inl (by simp)⟩;rw[eI,az]at Co;rcases Co with Co|Co;exact⟨gF c (by simp[Co]),.inl (by simp[Co])⟩;exact⟨gF c (by simp[Co]),.inr (.inl Co)⟩;refine grow ((arr.toList.drop o0).take (xs.length*e.size)) cap fps (λw1 hw1=>?_) ⟨_,rfl⟩ (by omega) Uv ?_ (λc Co=>by simp[Co]);refine run_firstCells_some (P:=P) w1 e.size xs.length ⟨b,o0,none⟩ xs.length cap _ hol (λj x hj=>?_);have hb1:w1.heap[b]?=some (.cells arr T fr):=by rw[hw1];exact hb
 rw[nZ,pV hb1];rw[jM]at hj;split at hj;simpa using hj;cases hj;rw[List.cons_append]at GX;exact(dD.1 GX).2
def vU (w:World)(b o n:Nat):jd:=(List.range n).map λj=>(w.cell? ⟨b,o+j,none⟩).getD undef
theorem ad3 {S:Nat->Nat->Prop}{u:Value}{ys:aw e.D}(h:jG w S (.sl e) [u] ys)(hf:e.flat=true)(hw:Nat->Nat): ∃news,Src P w e.size u ys.length news/\kT hw w e news ys (List.replicate ys.length []):=by
 obtain⟨v,hv,h⟩:=h;simp at hv;subst hv;rcases h with⟨⟨ad,rfl⟩,rfl⟩|⟨b,o,cap,rfl,hc,h⟩;cases ad with|none=>exact⟨[],⟨λ_=>rfl,λ_ _=>rfl⟩,kT.nil _ _ _⟩|some ad=>exact⟨[],⟨λ_=>rfl,λw1 _=>run_firstCells_some (P:=P) w1 e.size 0 ad 0 0 [] (by simp) (λj x hj=>by simp at hj)⟩,kT.nil _ _ _⟩
 have DE:∀j,j<ys.length*e.size->∃x,w.cell? ⟨b,o+j,none⟩=some x:=by
  intro j hj;have hi:j/e.size<ys.length:=by rw[Nat.div_lt_iff_lt_mul e.size_pos];exact hj
  obtain⟨cs,K2,hr⟩:=h (j/e.size) _ (ak hi);have hm:j%e.size<cs.length:=by rw[jG.length hr];exact Nat.mod_lt _ e.size_pos
  have:=(K2 (j%e.size) _ (ak hm)).2;rw[gi,Nat.mul_comm,Nat.div_add_mod]at this;exact⟨_,this⟩
 have iE:∀j x,(vU w b o (ys.length*e.size))[j]?=some x->w.cell? ⟨b,o+j,none⟩=some x:=by intro j x hx;simp only[vU,List.getElem?_map]at hx;rcases cn j (ys.length*e.size)with hj|hj;rw[List.getElem?_range hj]at hx;obtain⟨y,hy⟩:=DE j hj;simp[hy]at hx;rw[hy,hx];rw[bC (by simpa using hj)]at hx;cases hx
 have hlen:(vU w b o (ys.length*e.size)).length=ys.length*e.size:=by simp[vU]
 refine⟨vU w b o (ys.length*e.size),⟨λ_=>rfl,λw1 hw1=>?_⟩,⟨hlen,by simp,λi y f hy hf'=>?_⟩⟩;refine run_firstCells_some (P:=P) w1 e.size ys.length ⟨b,o,none⟩ ys.length cap _ hlen (λj x hj=>?_);rw[nZ];have:=iE j x hj;simpa[World.cell?,hw1]using this;have hi:i<ys.length:=(aC.1 hy).1;have Ax:f=[]:=by rw[eL,aH hi]at hf';simpa using hf'.symm
 subst Ax;obtain⟨cs,K2,hr⟩:=h i y hy;have hm:(i+1)*e.size<=ys.length*e.size:=cJ _ hi;rw[cM,fO]at hm;have e1:((vU w b o (ys.length*e.size)).drop (i*e.size)).take e.size=cs:=by
  apply cI;intro j;rw[jM];have hcl:=jG.length hr;split;rename_i hj;have hjc:j<cs.length:=by omega
  have hx:=(K2 j _ (ak hjc)).2;have h2:(vU w b o (ys.length*e.size))[i*e.size+j]?=some cs[j]:=by simp only[vU,List.getElem?_map,List.getElem?_range (show i*e.size+j<ys.length*e.size by omega),dE];rw[<-gi,hx];rfl
  rw[h2,ak hjc];rw[bC (by omega)]
 rw[e1];exact OI hr hf
theorem al6 {u:Value}{ys:aw e.D}{fp:fE}(h:fQ hw w (.sl e) [u] ys fp): ∃news Ab,Src P w e.size u ys.length news/\kT hw w e news ys Ab/\(∀b∈Ab.flatten,b∈fp)/\(fp.Nodup->Ab.flatten.Nodup):=by
 obtain⟨v,hv,h⟩:=h;simp at hv;subst hv;rcases h with⟨⟨ad,rfl⟩,rfl,rfl⟩|⟨b,o0,cap,arr,T,fr,fps,rfl,hb,tN,hs,hc,hh,rfl,hl,ho⟩;refine⟨[],[],⟨λ_=>rfl,λw1 _=>?_⟩,kT.nil _ _ _,by simp,by simp⟩;cases ad with|none=>rfl|some ad=>exact run_firstCells_some (P:=P) w1 e.size 0 ad 0 0 [] (by simp) (λj x hj=>by simp at hj)
 have Uv:=Ly hs hc hl ho;refine⟨_,fps,⟨λ_=>rfl,λw1 hw1=>?_⟩,Uv,λc Co=>by simp[Co],λhn=>(dD.1 hn).2⟩;refine run_firstCells_some (P:=P) w1 e.size ys.length ⟨b,o0,none⟩ ys.length cap _ Uv.1 (λj x hj=>?_);have hb1:w1.heap[b]?=some (.cells arr T fr):=by rw[hw1];exact hb
 rw[nZ,pV hb1];rw[jM]at hj;split at hj;simpa using hj;cases hj
theorem al7 (s:aw UInt8)(hw:Nat->Nat):∃news,Src P w (CT.size (.int .u8)) (.string ⟨s.toArray⟩) (dz s).length news/\kT hw w (.int .u8) news (dz s) (List.replicate (dz s).length []):=by
 have hl:(dz s).length=s.length:=by simp[dz]
 refine⟨(dz s).map (Value.int .u8),⟨λw1=>by simp[Builtin.lenOf,yN,hl],λw1 _=>?_⟩,⟨by simp[CT.size],by simp,λi y f hy hf=>?_⟩⟩;have:(ByteArray.mk s.toArray).extract 0 s.length=ByteArray.mk s.toArray:=by rw[extract_mk];simp
 simp[Builtin.firstCells,this,dz];have hi:i<(dz s).length:=(aC.1 hy).1;have hf':f=[]:=by rw[eL,aH hi]at hf;simpa using hf.symm
 subst hf';refine⟨?_,rfl⟩;apply cI;intro j;rw[jM];simp only[CT.size,oa];cases j with|zero=>simp[hy]|succ j=>simp
theorem Wv {o:Oper}{s x:Operand}{t t':TypeId}(ho:o.op=.call {callee:=.builtin .append,args:=#[s,x],argTypes:=#[t,t']}){v:Value}{w':World}(h:(Builtin.append_ #[t,t'] o.type #[a.eval s,a.eval x]).run P w=.ok v w'):(execOp a.eval o).run P w=.ok (.value v) w':=by
 have e1:(#[s,x]:Array Operand).map a.eval=#[a.eval s,a.eval x]:=by simp
 simp only[execOp,ho,resolve,e1,Sem.run_bind,Sem.run_pure,Result.andThen_ok,invoke,builtin];show((Builtin.append_ #[t,t'] o.type #[a.eval s,a.eval x]).run P w).andThen _=_;rw[h];rfl
theorem VX {E:Env}(hE:jR P E.ty){o:Oper}{args:Array Operand}{ts:Array TypeId}(ho:o.op=.call {callee:=.builtin .append,args,argTypes:=ts})(h:pc C st a w){K:AS->ay R}(hk:yr E o ts.toList args.toList st K=some r):nC P C o a w K r:=by
 obtain⟨g,hg⟩:=h;unfold yr at hk;split at hk;rename_i t t' s x uM gE;have ea:args=#[s,x]:=by apply fK;simpa using gE
 have et:ts=#[t,t']:=by apply fK;simpa using uM
 subst ea;subst et;split at hk;rename_i tag e xs st1 UC;obtain⟨g1,hg1⟩:=hg.take s;rw[UC]at hg1;simp only[ch]at hg1;obtain⟨g2,Ik⟩:=hg1.take x
 have fin:∀(u:AV)(st2:AS),st1.take x=(u,st2)->ew C g2 st2 a w [(a.eval s,.val false [.sl (.own tag) e xs]),(a.eval x,u)]->∀(ys:aw e.D)(news:jd)(Ab:aw fE)(fq:fE),
  gK (db C g2 st2 w) (a.eval x) u fq->(∀b∈fq,g2.eX b=some (.hand 1))->E.sl t=some e->∀dt,P.underlying t'=some dt->(∀k,dt≠ .int k)->
  Src P w e.size (a.eval x) ys.length news->kT g2.hw w e news ys Ab->(∀b∈Ab.flatten,b∈fq)->Ab.flatten.Nodup->xs.length+ys.length<=1073741824->
  K (st2.qP o.dst e (xs++ys))=some r->nC P C o a w K r:=by
  intro u st2 _ Ik ys news Ab fq _ hlq hT dt hdt avj Jz FP qO GX Hz Uz
  obtain⟨fp,hrs,avB,aiy⟩:=Ik.hands 0 _ _ rfl
  have ik:=(fb hrs).1
  obtain⟨te,hu,he⟩:=Gp hE hT
  have gF:∀b∈fp++Ab.flatten,b<w.heap.size:=by intro b hb;rcases az.1 hb with hb|hb;exact(Ik.gL b _ (aiy b hb)).1;exact(Ik.gL b _ (hlq b (qO b hb))).1
  have avx:(fp++Ab.flatten).Nodup:=by refine aN.2 ⟨avB,GX,?_⟩;rintro b hb c hc rfl;have h1:=aiy b hb;rw[hlq b (qO b hc)]at h1;cases h1
  obtain⟨v',w',hw',kK,eU,Jw,jH,GW,Jx,UA,K3⟩:=ZS (ty:=o.type) hu he hdt avj ik Jz FP gF avx Hz
  refine⟨v',w',_,.inl (Wv ho eU),?_,Uz⟩
  refine Ik.PU o.dst (hw':=hw') (fp:=kK) ⟨jH.os,jH.tape,jH.output,jH.size,λb hb hh=>jH.block b hb (λhm=>hh (by rw[aiy b hm];rfl))⟩ ?_ Jx Jw UA ?_
  ·intro b y hb hh
   refine GW b (Ik.gL b y hb).1 (λhm=>hh ?_)
   rw[<-hb,aiy b hm];rfl
  ·intro b hb
   obtain⟨h1,h2⟩:=K3 b hb
   refine⟨h1,?_⟩
   rcases h2 with h2|h2|h2
   ·exact .inl (by rw[aiy b h2];rfl)
   ·exact .inl (by rw[hlq b (qO b h2)];rfl)
   ·exact .inr h2
 split at hk;rename_i fl e' ys st2 JA;split at hk;rename_i hee;subst hee;split at hk;rename_i hc;obtain⟨hT,hT',hgv⟩:=hc;unfold room at hk;split at hk;rename_i Hz;rw[JA]at Ik;have abe:ew C g2 st2 a w [(a.eval s,.val false [.sl (.own tag) e' xs]),(a.eval x,.val false [.sl fl e' ys])]:=Ik;obtain⟨fq,hrx,hnq,hlq⟩:=abe.hands 1 _ _ rfl;obtain⟨te',UD,_⟩:=Gp hE hT';have Ac:st2.ep=st.ep:=by have h1:= @VD st s;have h2:= @VD st1 x;rw[UC]at h1;rw[JA]at h2;exact h2.trans h1
 have hcx:=fb hrx;cases fl with
 |nest _ _ _ _ _ _=>simp[rE.rN]at hgv
 |part _ _ _ _=>simp[rE.rN]at hgv
 |fR _ _ _=>simp[rE.rN]at hgv
 |own tg=>obtain⟨news,Ab,Jz,FP,qO,GX⟩:=al6 (P:=P) hcx.1;exact fin _ st2 JA abe ys news Ab fq hrx hlq hT _ UD (by simp) Jz FP qO (GX hnq) Hz hk
 |arg _=>obtain⟨news,Jz,FP⟩:=ad3 (P:=P) hcx.2 (by simpa[rE.rN]using hgv) g2.hw;exact fin _ st2 JA abe ys news _ fq hrx hlq hT _ UD (by simp) Jz FP (by simp) (by simp) Hz hk
 |loc ep pv=>
  simp only[rE.rN,ae,aZ]at hgv;have avm:ep=(db C g2 st2 w).ep:=by show ep=st2.ep;rw[Ac];exact hgv.1
  obtain⟨news,Jz,FP⟩:=ad3 (P:=P) (hcx.2.2.2.1 avm) hgv.2 g2.hw;exact fin _ st2 JA abe ys news _ fq hrx hlq hT _ UD (by simp) Jz FP (by simp) (by simp) Hz hk
 cases hk;cases hk;cases hk;rename_i s0 st2 JA;split at hk;rename_i hee;subst hee;split at hk;rename_i hc;obtain⟨hT,hT'⟩:=hc;unfold room at hk;split at hk;rename_i Hz;rw[JA]at Ik;have abe:ew C g2 st2 a w [(a.eval s,.val false [.sl (.own tag) (.int .u8) xs]),(a.eval x,.val false [.str s0])]:=Ik;obtain⟨fq,hrx,hnq,hlq⟩:=abe.hands 1 _ _ rfl;have hcx:=fb hrx;obtain⟨news,Jz,FP⟩:=al7 (P:=P) (w:=w) s0 g2.hw;rw[<-hcx.1]at Jz;have hl:(dz s0).length=s0.length:=by simp[dz]
 exact fin _ st2 JA abe (dz s0) news _ fq hrx hlq hT _ (Vx hE hT') (by simp) Jz FP (by simp) (by simp) (by rw[hl];exact Hz) hk;cases hk;cases hk;cases hk;cases hk;cases hk;cases hk
end Go.Dn
