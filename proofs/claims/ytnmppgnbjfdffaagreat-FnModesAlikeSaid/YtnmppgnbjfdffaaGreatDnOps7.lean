import Derived.Test.YtnmppgnbjfdffaaGreatDnOps6
/- Part 7: append. -/
namespace Go.Dn
open Go.RowKit
variable {P:Program} {C:Ctx} {st:AS} {a:Act} {w:World} {R:Type} {r:R}
variable {e:CT} {hw:Nat->Nat}
structure Src (P:Program) (w:World) (size:Nat) (u:Value) (m:Nat) (news:List Value):Prop where
 len:∀w1:World,(Builtin.lenOf u).run P w1=.ok m w1
 first:∀w1:World,w1.heap=w.heap->(Builtin.firstCells size m u).run P w1=.ok news.toArray w1
theorem Wa {t t' ty te:TypeId}(ht:P.underlying t=some (.slice te))(he:Lw P te e){dt:TypeDesc}(V1:P.underlying t'=some dt)(hdt:∀k,dt≠ .int k){v u:Value}{xs ys:ay e.D}{fp:fR}{news:jz}{yh:ay fR}(iL:gi hw w (.sl e) [v] xs fp)(Hp:Src P w e.size u ys.length news)(Ea:lh hw w e news ys yh)(ir:∀b∈fp++yh.flatten,b<w.heap.size)(Fc:(fp++yh.flatten).Nodup)(FM:xs.length+ys.length<=1073741824): ∃v' w' hw' kS,(Builtin.append_ #[t,t'] ty #[v,u]).run P w=.ok v' w'/\gi hw' w' (.sl e) [v'] (xs++ys) kS/\Fr (λb=>b∈fp) w w'/\(∀b,b<w.heap.size->b∉fp->hw' b=hw b)/\ (∀b o x,o<hw b->w.cell? ⟨b,o,none⟩=some x->o<hw' b/\w'.cell? ⟨b,o,none⟩=some x)/\kS.Nodup/\∀b∈kS,b<w'.heap.size/\(b∈fp\/b∈yh.flatten\/w.heap.size<=b):=by
 obtain⟨⟨inf,z,Ca,uL,hby,hz,hzc⟩,_⟩:=he;have hzs:z.cells.size=e.size:=by rw[<-pO e,<-hzc];simp
 have aaU:=e.size_pos;have hnz:(match dt with| .int _=>true|_=>false)=false:=by cases dt<;>simp;exact absurd rfl (hdt _)
 have RJ:=Hp.first w rfl
 have agJ:=Hp.first w.drew rfl
 have hlen:=Hp.len;have J8:=Ea.1;have h63:¬((xs.length+ys.length:Nat):Int)>IntKind.i64.max:=by
  have:IntKind.i64.max=9223372036854775807:=by decide
  omega
 have grow:∀(R9:jz)(Ny:Nat)(fps:ay fR),(∀w1:World,w1.heap=w.heap->(Builtin.firstCells e.size xs.length v).run P w1=.ok R9.toArray w1)->(∃base,v=.slice base xs.length Ny)->Ny<xs.length+ys.length->
  lh hw w e R9 xs fps->(fps.flatten++yh.flatten).Nodup->(∀b∈fps.flatten,b∈fp)->
  ∃v' w' hw' kS,(Builtin.append_ #[t,t'] ty #[v,u]).run P w=.ok v' w'/\gi hw' w' (.sl e) [v'] (xs++ys) kS/\Fr (λb=>b∈fp) w w'/\(∀b,b<w.heap.size->b∉fp->hw' b=hw b)/\
  (∀b o x,o<hw b->w.cell? ⟨b,o,none⟩=some x->o<hw' b/\w'.cell? ⟨b,o,none⟩=some x)/\kS.Nodup/\∀b∈kS,b<w'.heap.size/\(b∈fp\/b∈yh.flatten\/w.heap.size<=b):=by
  intro R9 Ny fps hold ak0 Hk RH apD qc
  obtain⟨base,rfl⟩:=ak0
  have alm:=hold w.drew rfl
  have iB:Builtin.nextslicecap (xs.length+ys.length) Ny*inf.bytes<=281474976710656:=by refine growslice_fits Hk ?_;have:(xs.length+ys.length)*inf.bytes<=1073741824*65536:=Nat.mul_le_mul FM hby;omega
  have fb:(Builtin.append_ #[t,t'] ty #[.slice base xs.length Ny,u]).run P w=
   .ok (.slice (some ⟨w.heap.size,0,none⟩) (xs.length+ys.length) (grownCap w (xs.length+ys.length) Ny te))
    (w.drew.alloc (.cells (R9.toArray++news.toArray++Builtin.zeroCells z.cells (grownCap w (xs.length+ys.length) Ny te-(xs.length+ys.length))) te)):=by
   have h1:¬(xs.length+ys.length<=Ny):=by omega
   have h2:¬(281474976710656<Builtin.nextslicecap (xs.length+ys.length) Ny*inf.bytes):=by omega
   simp only[Builtin.append_]
   simp only[underlying,Sem.run_bind,run_program,ht,V1,Result.andThen_ok,Sem.run_pure,sizeOf,typeInfo,Ca,uL,List.getElem?_toArray,cM,fG,hlen,aN,bh,cn,
    h1,h63,false_and,cc,zeroValue,newRow]
   rw[aH (by simpa using h2)]
   simp only[Sem.run_bind,run_choose,Question.forced,bh,cn,Result.andThen_ok,run_program,Ca,run_askRoom,Sem.run_pure]
   have e1:=alm
   have e2:=agJ
   simp only[World.drew]at e1 e2
   simp only[e1,e2,Result.andThen_ok,hz,Sem.run_pure,run_newObj]
   rfl
  have zH:=grownCap_ge w (xs.length+ys.length) Ny te
  generalize grownCap w (xs.length+ys.length) Ny te=nc at fb zH
  have apP:(Builtin.zeroCells z.cells (nc-(xs.length+ys.length))).size=(nc-(xs.length+ys.length))*e.size:=by rw[size_zeroCells,hzs]
  let jJ:Array Value:=R9.toArray++news.toArray++Builtin.zeroCells z.cells (nc-(xs.length+ys.length))
  have hlo:=RH.1
  have apj:jJ.size=nc*e.size:=by show(R9.toArray++news.toArray++Builtin.zeroCells z.cells (nc-(xs.length+ys.length))).size=_;rw[Array.size_append,Array.size_append,apP];simp only[List.size_toArray,hlo,J8,<-cW];congr 1;omega
  let hw':Nat->Nat:=λb=>if b=w.heap.size then(xs++ys).length*e.size else hw b
  have T0:(w.drew.alloc (.cells jJ te)).heap[w.heap.size]?=some (.cells jJ te (0,0)):=heap_alloc_new w.drew _
  have ain:∀b,b<w.heap.size->(w.drew.alloc (.cells jJ te)).heap[b]?=w.heap[b]?:=λb hb=>heap_alloc_old w.drew _ b hb
  have sN:jJ.toList.take ((xs++ys).length*e.size)=R9++news:=by
   show(R9.toArray++news.toArray++Builtin.zeroCells z.cells (nc-(xs.length+ys.length))).toList.take _=_;rw[Array.toList_append,Array.toList_append];have:(R9++news).length=(xs++ys).length*e.size:=by simp only[aj,hlo,J8,cW]
   rw[<-this];exact List.take_left
  have aji:∀b∈(fps++yh).flatten,b<w.heap.size:=by intro b hb;rw[eo,ax]at hb;exact ir b (by rcases hb with hb|hb;exact aR _ (qc b hb);exact bj _ hb)
  refine⟨_,_,hw',w.heap.size::(fps++yh).flatten,fb,?_,?_,?_,?_,?_,?_⟩
  ·have:=X8 (hw:=hw') (o0:=0) (xs:=xs++ys) (cap:=nc) T0 (by intro j _;simp) (by rw[cK];exact apj) (by simp;omega) (by simp[hw']) (fps:=fps++yh) (by rw[eP,sN];refine(RH.append Ea).mono (λb hb=>?_);have im:=aji b hb;exact⟨ain b im,by simp[hw',iO im]⟩)
   rw[aj]at this
   exact this
  ·exact(Fr.drew _ w).trans (Fr.alloc _ _ _) (λb _ hh=>hh)
  ·intro b hb _;simp[hw',iO hb]
  ·intro b o x ho hx
   have hb:b<w.heap.size:=World.block_lt_of_cell? w _ hx
   exact⟨by simp[hw',iO hb];exact ho,by rw[World.cell?_of_block (a:=⟨b,o,none⟩) (ain b hb)];exact hx⟩
  ·refine dI.2 ⟨λhm=>Nat.lt_irrefl _ (aji _ hm),?_⟩
   rw[eo];exact apD
  ·intro b hb
   rcases cw.1 hb with rfl|hb
   ·exact⟨by simp,.inr (.inr (aV _))⟩
   ·have im:=aji b hb
    refine⟨by simp;omega,?_⟩
    rw[eo,ax]at hb
    rcases hb with hb|hb
    ·exact .inl (qc b hb)
    ·exact .inr (.inl hb)
 obtain⟨vv,hvv,ho⟩:=id iL;simp at hvv;subst hvv;rcases ho with⟨⟨ad,rfl⟩,rfl,rfl⟩|⟨b,o0,cap,arr,T,fr,fps,rfl,hb,sE,hs,hc,hh,rfl,hl,ho⟩;have apt:∀w1:World,(Builtin.firstCells e.size ([]:ay e.D).length (.slice ad 0 0)).run P w1=.ok ([]:jz).toArray w1:=by intro w1;cases ad with|none=>simp[Builtin.firstCells]|some ad=>exact run_firstCells_some (P:=P) w1 e.size 0 ad 0 0 [] (by simp) (λj x hj=>by simp at hj)
 by_cases hm:ys.length=0;have hy:ys=[]:=bZ hm;subst hy;refine⟨.slice ad 0 0,w,hw,[],?_,⟨_,rfl,.inl ⟨⟨_,rfl⟩,rfl,rfl⟩⟩,Fr.refl _ _,λ_ _ _=>rfl,λ_ _ _ ho hx=>⟨ho,hx⟩,by simp,by simp⟩;simp only[Builtin.append_];simp only[underlying,Sem.run_bind,run_program,ht,V1,Result.andThen_ok,Sem.run_pure,sizeOf,typeInfo,Ca,uL,List.getElem?_toArray,cM,fG,hlen,bh,cn,bQ,cc];simp only[dv]at RJ;have ali:news=[]:=bZ (by rw[J8];simp);subst ali;simp[RJ];cases ad<;>simp[storeCells];refine grow [] 0 [] (λw1 _=>apt w1) ⟨ad,by simp⟩ (by simp;omega) (lh.nil _ _ _) (by simpa using Fc) (by simp);have RH:=Jm hs hc hl ho;have hln:o0+xs.length*e.size<=arr.size:=by rw[hs];exact Nat.add_le_add_left (cO _ hc) _
 have hol:((arr.toList.drop o0).take (xs.length*e.size)).length=xs.length*e.size:=RH.1;by_cases aeo:xs.length+ys.length<=cap;have iB:o0+xs.length*e.size+news.length<=arr.size:=by rw[J8,hs,fV,<-cW];exact Nat.add_le_add_left (cO _ aeo) _
 have nt:=we P b (o0+xs.length*e.size) T fr news 0 w arr hb sE (by simpa using iB) Ea.nC;simp only[dX]at nt;have fb:(Builtin.append_ #[t,t'] ty #[.slice (some ⟨b,o0,none⟩) xs.length cap,u]).run P w=.ok (.slice (some ⟨b,o0,none⟩) (xs.length+ys.length) cap) (uh w b (fy arr (o0+xs.length*e.size) news) T fr):=by simp only[Builtin.append_];simp only[underlying,Sem.run_bind,run_program,ht,V1,Result.andThen_ok,Sem.run_pure,sizeOf,typeInfo,Ca,uL,List.getElem?_toArray,cM,fG,hlen,bh,cn,bQ,cc,aeo,RJ,nK,nt]
 have FL:=mH hb;rw[gO]at Fc;have wA:b∉fps.flatten++yh.flatten:=(dI.1 Fc).1;let hw':Nat->Nat:=λc=>if c=b then o0+(xs++ys).length*e.size else hw c
 refine⟨_,_,hw',b::(fps++yh).flatten,fb,?_,?_,?_,?_,?_,?_⟩;have sN:((fy arr (o0+xs.length*e.size) news).toList.drop o0).take ((xs++ys).length*e.size)=(arr.toList.drop o0).take (xs.length*e.size)++news:=by
  have h2:((arr.toList.drop o0).take (xs.length*e.size)++news).length=(xs++ys).length*e.size:=by simp only[aj,hol,J8,cW]
  have h3:(xs++ys).length*e.size=xs.length*e.size+news.length:=by rw[aj,cW,J8]
  apply dh;intro j;rw[jU];by_cases hj:j<(xs++ys).length*e.size;rw[aF hj,xW iB];by_cases h1:j<xs.length*e.size;rw[kl,bp (by omega),jU,aF h1];rw[zip,bz (by omega),hol];congr 1;omega;rw[aH hj,bM (by omega)]
 have:=X8 (hw:=hw') (w:=uh w b (fy arr (o0+xs.length*e.size) news) T fr) (xs:=xs++ys) (cap:=cap) (fps:=fps++yh) (wY FL) (λj hj=>sE j (by rwa[jt]at hj)) (by rw[jt];exact hs) (by simp;omega) (by simp[hw']) (by
  rw[sN];refine(RH.append Ea).mono (λc yd=>?_);have Cy:c≠b:=by rintro rfl;exact wA (by rwa[eo]at yd)
  exact⟨nh Cy,by simp[hw',Cy]⟩)
 rw[aj]at this;exact this;exact⟨rfl,rfl,rfl,by rw[mm];exact aV _,λc _ yd=>nh (λe=>yd (by simp[e]))⟩;intro c _ yd;have Cy:c≠b:=λe=>yd (by simp[e]);simp[hw',Cy];intro c o x KS hx;by_cases hcb:c=b;subst hcb;rw[hh]at KS;refine⟨?_,?_⟩;simp only[hw',cc,aj,cW];omega;rw[po (wY FL),<-cG,xW iB,kl,cG,<-po hb];exact hx;exact⟨by simp[hw',hcb];exact KS,by rw[World.cell?_of_block (a:=⟨c,o,none⟩) (nh hcb)];exact hx⟩;refine dI.2 ⟨by rw[eo];exact wA,?_⟩;rw[eo];exact(dI.1 Fc).2;intro c yd;rw[mm];rcases cw.1 yd with rfl|yd;exact⟨FL,.inl (by simp)⟩;rw[eo,ax]at yd;rcases yd with yd|yd;exact⟨ir c (by simp[yd]),.inl (by simp[yd])⟩;exact⟨ir c (by simp[yd]),.inr (.inl yd)⟩;refine grow ((arr.toList.drop o0).take (xs.length*e.size)) cap fps (λw1 hw1=>?_) ⟨_,rfl⟩ (by omega) RH ?_ (λc yd=>by simp[yd]);refine run_firstCells_some (P:=P) w1 e.size xs.length ⟨b,o0,none⟩ xs.length cap _ hol (λj x hj=>?_);have hb1:w1.heap[b]?=some (.cells arr T fr):=by rw[hw1];exact hb
 rw[nK,po hb1];rw[jU]at hj;split at hj;simpa using hj;cases hj;rw[gO]at Fc;exact(dI.1 Fc).2
def uB (w:World)(b o n:Nat):jz:=(List.range n).map λj=>(w.cell? ⟨b,o+j,none⟩).getD undef
theorem Z4 {S:Nat->Nat->Prop}{u:Value}{ys:ay e.D}(h:jP w S (.sl e) [u] ys)(hf:e.flat=true)(hw:Nat->Nat): ∃news,Src P w e.size u ys.length news/\lh hw w e news ys (List.replicate ys.length []):=by
 obtain⟨v,hv,h⟩:=h;simp at hv;subst hv;rcases h with⟨⟨ad,rfl⟩,rfl⟩|⟨b,o,cap,rfl,hc,h⟩;cases ad with|none=>exact⟨[],⟨λ_=>rfl,λ_ _=>rfl⟩,lh.nil _ _ _⟩|some ad=>exact⟨[],⟨λ_=>rfl,λw1 _=>run_firstCells_some (P:=P) w1 e.size 0 ad 0 0 [] (by simp) (λj x hj=>by simp at hj)⟩,lh.nil _ _ _⟩
 have B5:∀j,j<ys.length*e.size->∃x,w.cell? ⟨b,o+j,none⟩=some x:=by
  intro j hj;have hi:j/e.size<ys.length:=by rw[Nat.div_lt_iff_lt_mul e.size_pos];exact hj
  obtain⟨cs,IV,hr⟩:=h (j/e.size) _ (aw hi);have hm:j%e.size<cs.length:=by rw[jP.length hr];exact Nat.mod_lt _ e.size_pos
  have:=(IV (j%e.size) _ (aw hm)).2;rw[fV,Nat.mul_comm,Nat.div_add_mod]at this;exact⟨_,this⟩
 have iP:∀j x,(uB w b o (ys.length*e.size))[j]?=some x->w.cell? ⟨b,o+j,none⟩=some x:=by intro j x hx;simp only[uB,List.getElem?_map]at hx;rcases bW j (ys.length*e.size)with hj|hj;rw[List.getElem?_range hj]at hx;obtain⟨y,hy⟩:=B5 j hj;simp[hy]at hx;rw[hy,hx];rw[bM (by simpa using hj)]at hx;cases hx
 have hlen:(uB w b o (ys.length*e.size)).length=ys.length*e.size:=by simp[uB]
 refine⟨uB w b o (ys.length*e.size),⟨λ_=>rfl,λw1 hw1=>?_⟩,⟨hlen,by simp,λi y f hy hf'=>?_⟩⟩;refine run_firstCells_some (P:=P) w1 e.size ys.length ⟨b,o,none⟩ ys.length cap _ hlen (λj x hj=>?_);rw[nK];have:=iP j x hj;simpa[World.cell?,hw1]using this;have hi:i<ys.length:=(aB.1 hy).1;have B8:f=[]:=by rw[eD,aF hi]at hf';simpa using hf'.symm
 subst B8;obtain⟨cs,IV,hr⟩:=h i y hy;have hm:(i+1)*e.size<=ys.length*e.size:=cO _ hi;rw[cW,fY]at hm;have e1:((uB w b o (ys.length*e.size)).drop (i*e.size)).take e.size=cs:=by
  apply dh;intro j;rw[jU];have hcl:=jP.length hr;split;rename_i hj;have hjc:j<cs.length:=by omega
  have hx:=(IV j _ (aw hjc)).2;have h2:(uB w b o (ys.length*e.size))[i*e.size+j]?=some cs[j]:=by simp only[uB,List.getElem?_map,List.getElem?_range (show i*e.size+j<ys.length*e.size by omega),dJ];rw[<-fV,hx];rfl
  rw[h2,aw hjc];rw[bM (by omega)]
 rw[e1];exact Mh hr hf
theorem ahJ {u:Value}{ys:ay e.D}{fp:fR}(h:gi hw w (.sl e) [u] ys fp): ∃news yh,Src P w e.size u ys.length news/\lh hw w e news ys yh/\(∀b∈yh.flatten,b∈fp)/\(fp.Nodup->yh.flatten.Nodup):=by
 obtain⟨v,hv,h⟩:=h;simp at hv;subst hv;rcases h with⟨⟨ad,rfl⟩,rfl,rfl⟩|⟨b,o0,cap,arr,T,fr,fps,rfl,hb,sE,hs,hc,hh,rfl,hl,ho⟩;refine⟨[],[],⟨λ_=>rfl,λw1 _=>?_⟩,lh.nil _ _ _,by simp,by simp⟩;cases ad with|none=>rfl|some ad=>exact run_firstCells_some (P:=P) w1 e.size 0 ad 0 0 [] (by simp) (λj x hj=>by simp at hj)
 have RH:=Jm hs hc hl ho;refine⟨_,fps,⟨λ_=>rfl,λw1 hw1=>?_⟩,RH,λc yd=>by simp[yd],λhn=>(dI.1 hn).2⟩;refine run_firstCells_some (P:=P) w1 e.size ys.length ⟨b,o0,none⟩ ys.length cap _ RH.1 (λj x hj=>?_);have hb1:w1.heap[b]?=some (.cells arr T fr):=by rw[hw1];exact hb
 rw[nK,po hb1];rw[jU]at hj;split at hj;simpa using hj;cases hj
theorem ahK (s:ay UInt8)(hw:Nat->Nat):∃news,Src P w (CT.size (.int .u8)) (.string ⟨s.toArray⟩) (dL s).length news/\lh hw w (.int .u8) news (dL s) (List.replicate (dL s).length []):=by
 have hl:(dL s).length=s.length:=by simp[dL]
 refine⟨(dL s).map (Value.int .u8),⟨λw1=>by simp[Builtin.lenOf,xu,hl],λw1 _=>?_⟩,⟨by simp[CT.size],by simp,λi y f hy hf=>?_⟩⟩;have:(ByteArray.mk s.toArray).extract 0 s.length=ByteArray.mk s.toArray:=by rw[extract_mk];simp
 simp[Builtin.firstCells,this,dL];have hi:i<(dL s).length:=(aB.1 hy).1;have hf':f=[]:=by rw[eD,aF hi]at hf;simpa using hf.symm
 subst hf';refine⟨?_,rfl⟩;apply dh;intro j;rw[jU];simp only[CT.size,nL];cases j with|zero=>simp[hy]|succ j=>simp
theorem Tq {o:Oper}{s x:Operand}{t t':TypeId}(ho:o.op=.call {callee:=.builtin .append,args:=#[s,x],argTypes:=#[t,t']}){v:Value}{w':World}(h:(Builtin.append_ #[t,t'] o.type #[a.eval s,a.eval x]).run P w=.ok v w'):(execOp a.eval o).run P w=.ok (.value v) w':=by
 have e1:(#[s,x]:Array Operand).map a.eval=#[a.eval s,a.eval x]:=by simp
 simp only[execOp,ho,resolve,e1,Sem.run_bind,Sem.run_pure,Result.andThen_ok,invoke,builtin];show((Builtin.append_ #[t,t'] o.type #[a.eval s,a.eval x]).run P w).andThen _=_;rw[h];rfl
theorem S1 {E:Env}(hE:jX P E.ty){o:Oper}{args:Array Operand}{ts:Array TypeId}(ho:o.op=.call {callee:=.builtin .append,args,argTypes:=ts})(h:oE C st a w){K:AS->aC R}(hk:xa E o ts.toList args.toList st K=some r):nm P C o a w K r:=by
 obtain⟨g,hg⟩:=h;unfold xa at hk;split at hk;rename_i t t' s x tz gP;have ea:args=#[s,x]:=by apply fN;simpa using gP
 have et:ts=#[t,t']:=by apply fN;simpa using tz
 subst ea;subst et;split at hk;rename_i tag e xs st1 RO;obtain⟨g1,hg1⟩:=hg.take s;rw[RO]at hg1;simp only[cC]at hg1;obtain⟨g2,Gj⟩:=hg1.take x
 have fin:∀(u:AV)(st2:AS),st1.take x=(u,st2)->eK C g2 st2 a w [(a.eval s,.val false [.sl (.own tag) e xs]),(a.eval x,u)]->∀(ys:ay e.D)(news:jz)(yh:ay fR)(fq:fR),
  gW (dk C g2 st2 w) (a.eval x) u fq->(∀b∈fq,g2.fe b=some (.hand 1))->E.sl t=some e->∀dt,P.underlying t'=some dt->(∀k,dt≠ .int k)->
  Src P w e.size (a.eval x) ys.length news->lh g2.hw w e news ys yh->(∀b∈yh.flatten,b∈fq)->yh.flatten.Nodup->xs.length+ys.length<=1073741824->
  K (st2.qg o.dst e (xs++ys))=some r->nm P C o a w K r:=by
  intro u st2 _ Gj ys news yh fq _ hlq hT dt hdt apn Hp Ea qc Fc FM Ou
  obtain⟨fp,hrs,apF,aeg⟩:=Gj.hands 0 _ _ rfl
  have iL:=(fi hrs).1
  obtain⟨te,hu,he⟩:=ED hE hT
  have ir:∀b∈fp++yh.flatten,b<w.heap.size:=by intro b hb;rcases ax.1 hb with hb|hb;exact(Gj.gY b _ (aeg b hb)).1;exact(Gj.gY b _ (hlq b (qc b hb))).1
  have apB:(fp++yh.flatten).Nodup:=by refine aM.2 ⟨apF,Fc,?_⟩;rintro b hb c hc rfl;have h1:=aeg b hb;rw[hlq b (qc b hc)]at h1;cases h1
  obtain⟨v',w',hw',kS,fb,Hm,jQ,Fb,Hn,RM,IW⟩:=Wa (ty:=o.type) hu he hdt apn iL Hp Ea ir apB FM
  refine⟨v',w',_,.inl (Tq ho fb),?_,Ou⟩
  refine Gj.Nq o.dst (hw':=hw') (fp:=kS) ⟨jQ.os,jQ.tape,jQ.output,jQ.size,λb hb hh=>jQ.block b hb (λhm=>hh (by rw[aeg b hm];rfl))⟩ ?_ Hn Hm RM ?_
  ·intro b y hb hh
   refine Fb b (Gj.gY b y hb).1 (λhm=>hh ?_)
   rw[<-hb,aeg b hm];rfl
  ·intro b hb
   obtain⟨h1,h2⟩:=IW b hb
   refine⟨h1,?_⟩
   rcases h2 with h2|h2|h2
   ·exact .inl (by rw[aeg b h2];rfl)
   ·exact .inl (by rw[hlq b (qc b h2)];rfl)
   ·exact .inr h2
 split at hk;rename_i fl e' ys st2 Hq;split at hk;rename_i hee;subst hee;split at hk;rename_i hc;obtain⟨hT,hT',hgv⟩:=hc;unfold room at hk;split at hk;rename_i FM;rw[Hq]at Gj;have Xe:eK C g2 st2 a w [(a.eval s,.val false [.sl (.own tag) e' xs]),(a.eval x,.val false [.sl fl e' ys])]:=Gj;obtain⟨fq,hrx,hnq,hlq⟩:=Xe.hands 1 _ _ rfl;obtain⟨te',RP,_⟩:=ED hE hT';have yi:st2.ep=st.ep:=by have h1:= @SF st s;have h2:= @SF st1 x;rw[RO]at h1;rw[Hq]at h2;exact h2.trans h1
 have hcx:=fi hrx;cases fl with
 |nest _ _ _ _ _ _=>simp[qL.nj]at hgv
 |part _ _ _ _=>simp[qL.nj]at hgv
 |gj _ _ _=>simp[qL.nj]at hgv
 |own tg=>obtain⟨news,yh,Hp,Ea,qc,Fc⟩:=ahJ (P:=P) hcx.1;exact fin _ st2 Hq Xe ys news yh fq hrx hlq hT _ RP (by simp) Hp Ea qc (Fc hnq) FM hk
 |arg _=>obtain⟨news,Hp,Ea⟩:=Z4 (P:=P) hcx.2 (by simpa[qL.nj]using hgv) g2.hw;exact fin _ st2 Hq Xe ys news _ fq hrx hlq hT _ RP (by simp) Hp Ea (by simp) (by simp) FM hk
 |loc ep pv=>
  simp only[qL.nj,ab,bm]at hgv;have apr:ep=(dk C g2 st2 w).ep:=by show ep=st2.ep;rw[yi];exact hgv.1
  obtain⟨news,Hp,Ea⟩:=Z4 (P:=P) (hcx.2.2.2.1 apr) hgv.2 g2.hw;exact fin _ st2 Hq Xe ys news _ fq hrx hlq hT _ RP (by simp) Hp Ea (by simp) (by simp) FM hk
 cases hk;cases hk;cases hk;rename_i s0 st2 Hq;split at hk;rename_i hee;subst hee;split at hk;rename_i hc;obtain⟨hT,hT'⟩:=hc;unfold room at hk;split at hk;rename_i FM;rw[Hq]at Gj;have Xe:eK C g2 st2 a w [(a.eval s,.val false [.sl (.own tag) (.int .u8) xs]),(a.eval x,.val false [.str s0])]:=Gj;obtain⟨fq,hrx,hnq,hlq⟩:=Xe.hands 1 _ _ rfl;have hcx:=fi hrx;obtain⟨news,Hp,Ea⟩:=ahK (P:=P) (w:=w) s0 g2.hw;rw[<-hcx.1]at Hp;have hl:(dL s0).length=s0.length:=by simp[dL]
 exact fin _ st2 Hq Xe (dL s0) news _ fq hrx hlq hT _ (Sy hE hT') (by simp) Hp Ea (by simp) (by simp) (by rw[hl];exact FM) hk;cases hk;cases hk;cases hk;cases hk;cases hk;cases hk
end Go.Dn
