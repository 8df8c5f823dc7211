import Derived.Test.YthllnaiaikjelaaGreatDnOps6
/- Part 7: append. -/
namespace Go.Dn
open Go.RowKit
variable {P:Program} {C:Ctx} {st:AS} {a:Act} {w:World} {R:Type} {r:R}
variable {e:CT} {hw:Nat->Nat}
structure Src (P:Program) (w:World) (size:Nat) (u:Value) (m:Nat) (news:List Value):Prop where
 len:∀w1:World,(Builtin.lenOf u).run P w1=.ok m w1
 first:∀w1:World,w1.heap=w.heap->(Builtin.firstCells size m u).run P w1=.ok news.toArray w1
theorem aew {t t' ty te:TypeId}(ht:P.underlying t=some (.slice te))(he:Ub P te e){dt:TypeDesc}(ht':P.underlying t'=some dt)(hdt:∀k,dt≠ .int k){v u:Value}{xs ys:ar e.D}{fp:ec}{news:iU}{EE:ar ec}(fA:eS hw w (.sl e) [v] xs fp)(PQ:Src P w e.size u ys.length news)(LW:me hw w e news ys EE)(iG:∀b∈fp++EE.flatten,b<w.heap.size)(JK:(fp++EE.flatten).Nodup)(NR:xs.length+ys.length<=1073741824): ∃v' w' hw' jg,(Builtin.append_ #[t,t'] ty #[v,u]).run P w=.ok v' w'/\eS hw' w' (.sl e) [v'] (xs++ys) jg/\Fr (λb=>b∈fp) w w'/\(∀b,b<w.heap.size->b∉fp->hw' b=hw b)/\ (∀b o x,o<hw b->w.cell? ⟨b,o,none⟩=some x->o<hw' b/\w'.cell? ⟨b,o,none⟩=some x)/\jg.Nodup/\∀b∈jg,b<w'.heap.size/\(b∈fp\/b∈EE.flatten\/w.heap.size<=b):=by
 obtain⟨⟨inf,z,IT,xp,hby,hz,hzc⟩,_⟩:=he;have hzs:z.cells.size=e.size:=by rw[<-sL e,<-hzc];simp
 have aiO:=e.size_pos;have hnz:(match dt with| .int _=>true|_=>false)=false:=by cases dt<;>simp;exact absurd rfl (hdt _)
 have U5:=PQ.first w rfl
 have aop:=PQ.first w.drew rfl
 have hlen:=PQ.len;have Pf:=LW.1;have h63:¬((xs.length+ys.length:Nat):Int)>IntKind.i64.max:=by
  have:IntKind.i64.max=9223372036854775807:=by decide
  omega
 have grow:∀(aao:iU)(VV:Nat)(fps:ar ec),(∀w1:World,w1.heap=w.heap->(Builtin.firstCells e.size xs.length v).run P w1=.ok aao.toArray w1)->(∃base,v=.slice base xs.length VV)->VV<xs.length+ys.length->
  me hw w e aao xs fps->(fps.flatten++EE.flatten).Nodup->(∀b∈fps.flatten,b∈fp)->
  ∃v' w' hw' jg,(Builtin.append_ #[t,t'] ty #[v,u]).run P w=.ok v' w'/\eS hw' w' (.sl e) [v'] (xs++ys) jg/\Fr (λb=>b∈fp) w w'/\(∀b,b<w.heap.size->b∉fp->hw' b=hw b)/\
  (∀b o x,o<hw b->w.cell? ⟨b,o,none⟩=some x->o<hw' b/\w'.cell? ⟨b,o,none⟩=some x)/\jg.Nodup/\∀b∈jg,b<w'.heap.size/\(b∈fp\/b∈EE.flatten\/w.heap.size<=b):=by
  intro aao VV fps hold aq2 NA ZR azO th
  obtain⟨base,rfl⟩:=aq2
  have arl:=hold w.drew rfl
  have iy:Builtin.nextslicecap (xs.length+ys.length) VV*inf.bytes<=281474976710656:=by refine growslice_fits NA ?_;have:(xs.length+ys.length)*inf.bytes<=1073741824*65536:=Nat.mul_le_mul NR hby;omega
  have ej:(Builtin.append_ #[t,t'] ty #[.slice base xs.length VV,u]).run P w=
   .ok (.slice (some ⟨w.heap.size,0,none⟩) (xs.length+ys.length) (grownCap w (xs.length+ys.length) VV te))
    (w.drew.alloc (.cells (aao.toArray++news.toArray++Builtin.zeroCells z.cells (grownCap w (xs.length+ys.length) VV te-(xs.length+ys.length))) te)):=by
   have h1:¬(xs.length+ys.length<=VV):=by omega
   have h2:¬(281474976710656<Builtin.nextslicecap (xs.length+ys.length) VV*inf.bytes):=by omega
   simp only[Builtin.append_]
   simp only[underlying,Sem.run_bind,run_program,ht,ht',Result.andThen_ok,Sem.run_pure,sizeOf,typeInfo,IT,xp,List.getElem?_toArray,cL,ff,hlen,aU,bg,cD,
    h1,h63,false_and,cd,zeroValue,newRow]
   rw[aK (by simpa using h2)]
   simp only[Sem.run_bind,run_choose,Question.forced,bg,cD,Result.andThen_ok,run_program,IT,run_askRoom,Sem.run_pure]
   have e1:=arl
   have e2:=aop
   simp only[World.drew]at e1 e2
   simp only[e1,e2,Result.andThen_ok,hz,Sem.run_pure,run_newObj]
   rfl
  have Fe:=grownCap_ge w (xs.length+ys.length) VV te
  generalize grownCap w (xs.length+ys.length) VV te=nc at ej Fe
  have azZ:(Builtin.zeroCells z.cells (nc-(xs.length+ys.length))).size=(nc-(xs.length+ys.length))*e.size:=by rw[size_zeroCells,hzs]
  let jS:Array Value:=aao.toArray++news.toArray++Builtin.zeroCells z.cells (nc-(xs.length+ys.length))
  have hlo:=ZR.1
  have azs:jS.size=nc*e.size:=by show(aao.toArray++news.toArray++Builtin.zeroCells z.cells (nc-(xs.length+ys.length))).size=_;rw[Array.size_append,Array.size_append,azZ];simp only[List.size_toArray,hlo,Pf,<-cw];congr 1;omega
  let hw':Nat->Nat:=λb=>if b=w.heap.size then(xs++ys).length*e.size else hw b
  have ab5:(w.drew.alloc (.cells jS te)).heap[w.heap.size]?=some (.cells jS te (0,0)):=heap_alloc_new w.drew _
  have apv:∀b,b<w.heap.size->(w.drew.alloc (.cells jS te)).heap[b]?=w.heap[b]?:=λb hb=>heap_alloc_old w.drew _ b hb
  have xv:jS.toList.take ((xs++ys).length*e.size)=aao++news:=by
   show(aao.toArray++news.toArray++Builtin.zeroCells z.cells (nc-(xs.length+ys.length))).toList.take _=_;rw[Array.toList_append,Array.toList_append];have:(aao++news).length=(xs++ys).length*e.size:=by simp only[ay,hlo,Pf,cw]
   rw[<-this];exact List.take_left
  have ap6:∀b∈(fps++EE).flatten,b<w.heap.size:=by intro b hb;rw[ew,aA]at hb;exact iG b (by rcases hb with hb|hb;exact br _ (th b hb);exact bh _ hb)
  refine⟨_,_,hw',w.heap.size::(fps++EE).flatten,ej,?_,?_,?_,?_,?_,?_⟩
  ·have:=af1 (hw:=hw') (o0:=0) (xs:=xs++ys) (cap:=nc) ab5 (by intro j _;simp) (by rw[cr];exact azs) (by simp;omega) (by simp[hw']) (fps:=fps++EE) (by rw[fI,xv];refine(ZR.append LW).mono (λb hb=>?_);have ib:=ap6 b hb;exact⟨apv b ib,by simp[hw',iK ib]⟩)
   rw[ay]at this
   exact this
  ·exact(Fr.drew _ w).trans (Fr.alloc _ _ _) (λb _ hh=>hh)
  ·intro b hb _;simp[hw',iK hb]
  ·intro b o x ho hx
   have hb:b<w.heap.size:=World.block_lt_of_cell? w _ hx
   exact⟨by simp[hw',iK hb];exact ho,by rw[World.cell?_of_block (a:=⟨b,o,none⟩) (apv b hb)];exact hx⟩
  ·refine dg.2 ⟨λhm=>pL _ (ap6 _ hm),?_⟩
   rw[ew];exact azO
  ·intro b hb
   rcases cp.1 hb with rfl|hb
   ·exact⟨by simp,.inr (.inr (ba _))⟩
   ·have ib:=ap6 b hb
    refine⟨by simp;omega,?_⟩
    rw[ew,aA]at hb
    rcases hb with hb|hb
    ·exact .inl (th b hb)
    ·exact .inr (.inl hb)
 obtain⟨vv,hvv,ho⟩:=id fA;simp at hvv;subst hvv;rcases ho with⟨⟨ad,rfl⟩,rfl,rfl⟩|⟨b,o0,cap,arr,T,fr,fps,rfl,hb,uG,hs,hc,hh,rfl,hl,ho⟩;have azC:∀w1:World,(Builtin.firstCells e.size ([]:ar e.D).length (.slice ad 0 0)).run P w1=.ok ([]:iU).toArray w1:=by intro w1;cases ad with|none=>simp[Builtin.firstCells]|some ad=>exact run_firstCells_some (P:=P) w1 e.size 0 ad 0 0 [] (by simp) (λj x hj=>by simp at hj)
 by_cases hm:ys.length=0;have hy:ys=[]:=cP hm;subst hy;refine⟨.slice ad 0 0,w,hw,[],?_,⟨_,rfl,.inl ⟨⟨_,rfl⟩,rfl,rfl⟩⟩,Fr.refl _ _,λ_ _ _=>rfl,λ_ _ _ ho hx=>⟨ho,hx⟩,by simp,by simp⟩;simp only[Builtin.append_];simp only[underlying,Sem.run_bind,run_program,ht,ht',Result.andThen_ok,Sem.run_pure,sizeOf,typeInfo,IT,xp,List.getElem?_toArray,cL,ff,hlen,bg,cD,bz,cd];simp only[ef]at U5;have ari:news=[]:=cP (by rw[Pf];simp);subst ari;simp[U5];cases ad<;>simp[storeCells];refine grow [] 0 [] (λw1 _=>azC w1) ⟨ad,by simp⟩ (by simp;omega) (me.nil _ _ _) (by simpa using JK) (by simp);have ZR:=RQ hs hc hl ho;have hln:o0+xs.length*e.size<=arr.size:=by rw[hs];exact Nat.add_le_add_left (cC _ hc) _
 have hol:((arr.toList.drop o0).take (xs.length*e.size)).length=xs.length*e.size:=ZR.1;by_cases al1:xs.length+ys.length<=cap;have iy:o0+xs.length*e.size+news.length<=arr.size:=by rw[Pf,hs,fY,<-cw];exact Nat.add_le_add_left (cC _ al1) _
 have nh:=B9 P b (o0+xs.length*e.size) T fr news 0 w arr hb uG (by simpa using iy) LW.pt;simp only[dW]at nh;have ej:(Builtin.append_ #[t,t'] ty #[.slice (some ⟨b,o0,none⟩) xs.length cap,u]).run P w=.ok (.slice (some ⟨b,o0,none⟩) (xs.length+ys.length) cap) (zg w b (eX arr (o0+xs.length*e.size) news) T fr):=by simp only[Builtin.append_];simp only[underlying,Sem.run_bind,run_program,ht,ht',Result.andThen_ok,Sem.run_pure,sizeOf,typeInfo,IT,xp,List.getElem?_toArray,cL,ff,hlen,bg,cD,bz,cd,al1,U5,pJ,nh]
 have Lv:=og hb;rw[List.cons_append]at JK;have xe:b∉fps.flatten++EE.flatten:=(dg.1 JK).1;let hw':Nat->Nat:=λc=>if c=b then o0+(xs++ys).length*e.size else hw c
 refine⟨_,_,hw',b::(fps++EE).flatten,ej,?_,?_,?_,?_,?_,?_⟩;have xv:((eX arr (o0+xs.length*e.size) news).toList.drop o0).take ((xs++ys).length*e.size)=(arr.toList.drop o0).take (xs.length*e.size)++news:=by
  have h2:((arr.toList.drop o0).take (xs.length*e.size)++news).length=(xs++ys).length*e.size:=by simp only[ay,hol,Pf,cw]
  have h3:(xs++ys).length*e.size=xs.length*e.size+news.length:=by rw[ay,cw,Pf]
  apply cU;intro j;rw[kq];by_cases hj:j<(xs++ys).length*e.size;rw[aM hj,Eh iy];by_cases h1:j<xs.length*e.size;rw[nt,bF (by omega),kq,aM h1];rw[zip,bw (by omega),hol];congr 1;omega;rw[aK hj,bJ (by omega)]
 have:=af1 (hw:=hw') (w:=zg w b (eX arr (o0+xs.length*e.size) news) T fr) (xs:=xs++ys) (cap:=cap) (fps:=fps++EE) (CW Lv) (λj hj=>uG j (by rwa[jq]at hj)) (by rw[jq];exact hs) (by simp;omega) (by simp[hw']) (by
  rw[xv];refine(ZR.append LW).mono (λc IB=>?_);have Jo:c≠b:=by rintro rfl;exact xe (by rwa[ew]at IB)
  exact⟨oT Jo,by simp[hw',Jo]⟩)
 rw[ay]at this;exact this;exact⟨rfl,rfl,rfl,by rw[nA];exact ba _,λc _ IB=>oT (λe=>IB (by simp[e]))⟩;intro c _ IB;have Jo:c≠b:=λe=>IB (by simp[e]);simp[hw',Jo];intro c o x Tl hx;by_cases hcb:c=b;subst hcb;rw[hh]at Tl;refine⟨?_,?_⟩;simp only[hw',cd,ay,cw];omega;rw[oU (CW Lv),<-cm,Eh iy,nt,cm,<-oU hb];exact hx;exact⟨by simp[hw',hcb];exact Tl,by rw[World.cell?_of_block (a:=⟨c,o,none⟩) (oT hcb)];exact hx⟩;refine dg.2 ⟨by rw[ew];exact xe,?_⟩;rw[ew];exact(dg.1 JK).2;intro c IB;rw[nA];rcases cp.1 IB with rfl|IB;exact⟨Lv,.inl (by simp)⟩;rw[ew,aA]at IB;rcases IB with IB|IB;exact⟨iG c (by simp[IB]),.inl (by simp[IB])⟩;exact⟨iG c (by simp[IB]),.inr (.inl IB)⟩;refine grow ((arr.toList.drop o0).take (xs.length*e.size)) cap fps (λw1 hw1=>?_) ⟨_,rfl⟩ (by omega) ZR ?_ (λc IB=>by simp[IB]);refine run_firstCells_some (P:=P) w1 e.size xs.length ⟨b,o0,none⟩ xs.length cap _ hol (λj x hj=>?_);have hb1:w1.heap[b]?=some (.cells arr T fr):=by rw[hw1];exact hb
 rw[pJ,oU hb1];rw[kq]at hj;split at hj;simpa using hj;cases hj;rw[List.cons_append]at JK;exact(dg.1 JK).2
def zK (w:World)(b o n:Nat):iU:=(List.range n).map λj=>(w.cell? ⟨b,o+j,none⟩).getD undef
theorem ahY {S:Nat->Nat->Prop}{u:Value}{ys:ar e.D}(h:kg w S (.sl e) [u] ys)(hf:e.flat=true)(hw:Nat->Nat): ∃news,Src P w e.size u ys.length news/\me hw w e news ys (List.replicate ys.length []):=by
 obtain⟨v,hv,h⟩:=h;simp at hv;subst hv;rcases h with⟨⟨ad,rfl⟩,rfl⟩|⟨b,o,cap,rfl,hc,h⟩;cases ad with|none=>exact⟨[],⟨λ_=>rfl,λ_ _=>rfl⟩,me.nil _ _ _⟩|some ad=>exact⟨[],⟨λ_=>rfl,λw1 _=>run_firstCells_some (P:=P) w1 e.size 0 ad 0 0 [] (by simp) (λj x hj=>by simp at hj)⟩,me.nil _ _ _⟩
 have E1:∀j,j<ys.length*e.size->∃x,w.cell? ⟨b,o+j,none⟩=some x:=by
  intro j hj;have hi:j/e.size<ys.length:=by rw[Nat.div_lt_iff_lt_mul e.size_pos];exact hj
  obtain⟨cs,Rn,hr⟩:=h (j/e.size) _ (al hi);have hm:j%e.size<cs.length:=by rw[kg.length hr];exact Nat.mod_lt _ e.size_pos
  have:=(Rn (j%e.size) _ (al hm)).2;rw[fY,Nat.mul_comm,Nat.div_add_mod]at this;exact⟨_,this⟩
 have iM:∀j x,(zK w b o (ys.length*e.size))[j]?=some x->w.cell? ⟨b,o+j,none⟩=some x:=by intro j x hx;simp only[zK,List.getElem?_map]at hx;rcases bS j (ys.length*e.size)with hj|hj;rw[List.getElem?_range hj]at hx;obtain⟨y,hy⟩:=E1 j hj;simp[hy]at hx;rw[hy,hx];rw[bJ (by simpa using hj)]at hx;cases hx
 have hlen:(zK w b o (ys.length*e.size)).length=ys.length*e.size:=by simp[zK]
 refine⟨zK w b o (ys.length*e.size),⟨λ_=>rfl,λw1 hw1=>?_⟩,⟨hlen,by simp,λi y f hy hf'=>?_⟩⟩;refine run_firstCells_some (P:=P) w1 e.size ys.length ⟨b,o,none⟩ ys.length cap _ hlen (λj x hj=>?_);rw[pJ];have:=iM j x hj;simpa[World.cell?,hw1]using this;have hi:i<ys.length:=(aJ.1 hy).1;have Jn:f=[]:=by rw[dC,aM hi]at hf';simpa using hf'.symm
 subst Jn;obtain⟨cs,Rn,hr⟩:=h i y hy;have hm:(i+1)*e.size<=ys.length*e.size:=cC _ hi;rw[cw,eF]at hm;have e1:((zK w b o (ys.length*e.size)).drop (i*e.size)).take e.size=cs:=by
  apply cU;intro j;rw[kq];have hcl:=kg.length hr;split;rename_i hj;have hjc:j<cs.length:=by omega
  have hx:=(Rn j _ (al hjc)).2;have h2:(zK w b o (ys.length*e.size))[i*e.size+j]?=some cs[j]:=by simp only[zK,List.getElem?_map,List.getElem?_range (show i*e.size+j<ys.length*e.size by omega),dz];rw[<-fY,hx];rfl
  rw[h2,al hjc];rw[bJ (by omega)]
 rw[e1];exact UQ hr hf
theorem aoZ {u:Value}{ys:ar e.D}{fp:ec}(h:eS hw w (.sl e) [u] ys fp): ∃news EE,Src P w e.size u ys.length news/\me hw w e news ys EE/\(∀b∈EE.flatten,b∈fp)/\(fp.Nodup->EE.flatten.Nodup):=by
 obtain⟨v,hv,h⟩:=h;simp at hv;subst hv;rcases h with⟨⟨ad,rfl⟩,rfl,rfl⟩|⟨b,o0,cap,arr,T,fr,fps,rfl,hb,uG,hs,hc,hh,rfl,hl,ho⟩;refine⟨[],[],⟨λ_=>rfl,λw1 _=>?_⟩,me.nil _ _ _,by simp,by simp⟩;cases ad with|none=>rfl|some ad=>exact run_firstCells_some (P:=P) w1 e.size 0 ad 0 0 [] (by simp) (λj x hj=>by simp at hj)
 have ZR:=RQ hs hc hl ho;refine⟨_,fps,⟨λ_=>rfl,λw1 hw1=>?_⟩,ZR,λc IB=>by simp[IB],λhn=>(dg.1 hn).2⟩;refine run_firstCells_some (P:=P) w1 e.size ys.length ⟨b,o0,none⟩ ys.length cap _ ZR.1 (λj x hj=>?_);have hb1:w1.heap[b]?=some (.cells arr T fr):=by rw[hw1];exact hb
 rw[pJ,oU hb1];rw[kq]at hj;split at hj;simpa using hj;cases hj
theorem ao0 (s:ar UInt8)(hw:Nat->Nat):∃news,Src P w (CT.size (.int .u8)) (.string ⟨s.toArray⟩) (da s).length news/\me hw w (.int .u8) news (da s) (List.replicate (da s).length []):=by
 have hl:(da s).length=s.length:=by simp[da]
 refine⟨(da s).map (Value.int .u8),⟨λw1=>by simp[Builtin.lenOf,Du,hl],λw1 _=>?_⟩,⟨by simp[CT.size],by simp,λi y f hy hf=>?_⟩⟩;have:(ByteArray.mk s.toArray).extract 0 s.length=ByteArray.mk s.toArray:=by rw[extract_mk];simp
 simp[Builtin.firstCells,this,da];have hi:i<(da s).length:=(aJ.1 hy).1;have hf':f=[]:=by rw[dC,aM hi]at hf;simpa using hf.symm
 subst hf';refine⟨?_,rfl⟩;apply cU;intro j;rw[kq];simp only[CT.size,pM];cases j with|zero=>simp[hy]|succ j=>simp
theorem abD {o:Oper}{s x:Operand}{t t':TypeId}(ho:o.op=.call {callee:=.builtin .append,args:=#[s,x],argTypes:=#[t,t']}){v:Value}{w':World}(h:(Builtin.append_ #[t,t'] o.type #[a.eval s,a.eval x]).run P w=.ok v w'):(execOp a.eval o).run P w=.ok (.value v) w':=by
 have e1:(#[s,x]:Array Operand).map a.eval=#[a.eval s,a.eval x]:=by simp
 simp only[execOp,ho,resolve,e1,Sem.run_bind,Sem.run_pure,Result.andThen_ok,invoke,builtin];show((Builtin.append_ #[t,t'] o.type #[a.eval s,a.eval x]).run P w).andThen _=_;rw[h];rfl
theorem aba {E:Env}(hE:kA P E.ty){o:Oper}{args:Array Operand}{ts:Array TypeId}(ho:o.op=.call {callee:=.builtin .append,args,argTypes:=ts})(h:pF C st a w){K:AS->au R}(hk:CY E o ts.toList args.toList st K=some r):oX P C o a w K r:=by
 obtain⟨g,hg⟩:=h;unfold CY at hk;split at hk;rename_i t t' s x uH fJ;have ea:args=#[s,x]:=by apply eO;simpa using fJ
 have et:ts=#[t,t']:=by apply eO;simpa using uH
 subst ea;subst et;split at hk;rename_i tag e xs st1 Z0;obtain⟨g1,hg1⟩:=hg.take s;rw[Z0]at hg1;simp only[bE]at hg1;obtain⟨g2,OJ⟩:=hg1.take x
 have fin:∀(u:AV)(st2:AS),st1.take x=(u,st2)->dM C g2 st2 a w [(a.eval s,.val false [.sl (.own tag) e xs]),(a.eval x,u)]->∀(ys:ar e.D)(news:iU)(EE:ar ec)(fq:ec),
  gi (cO C g2 st2 w) (a.eval x) u fq->(∀b∈fq,g2.eo b=some (.hand 1))->E.sl t=some e->∀dt,P.underlying t'=some dt->(∀k,dt≠ .int k)->
  Src P w e.size (a.eval x) ys.length news->me g2.hw w e news ys EE->(∀b∈EE.flatten,b∈fq)->EE.flatten.Nodup->xs.length+ys.length<=1073741824->
  K (st2.ti o.dst e (xs++ys))=some r->oX P C o a w K r:=by
  intro u st2 _ OJ ys news EE fq _ hlq hT dt hdt azx PQ LW th JK NR ZT
  obtain⟨fp,hrs,azQ,alQ⟩:=OJ.hands 0 _ _ rfl
  have fA:=(eG hrs).1
  obtain⟨te,hu,he⟩:=Mu hE hT
  have iG:∀b∈fp++EE.flatten,b<w.heap.size:=by intro b hb;rcases aA.1 hb with hb|hb;exact(OJ.fV b _ (alQ b hb)).1;exact(OJ.fV b _ (hlq b (th b hb))).1
  have azM:(fp++EE.flatten).Nodup:=by refine aG.2 ⟨azQ,JK,?_⟩;rintro b hb c hc rfl;have h1:=alQ b hb;rw[hlq b (th b hc)]at h1;cases h1
  obtain⟨v',w',hw',jg,ej,IU,iw,Gz,PL,ZV,Ro⟩:=aew (ty:=o.type) hu he hdt azx fA PQ LW iG azM NR
  refine⟨v',w',_,.inl (abD ho ej),?_,ZT⟩
  refine OJ.VO o.dst (hw':=hw') (fp:=jg) ⟨iw.os,iw.tape,iw.output,iw.size,λb hb hh=>iw.block b hb (λhm=>hh (by rw[alQ b hm];rfl))⟩ ?_ PL IU ZV ?_
  ·intro b y hb hh
   refine Gz b (OJ.fV b y hb).1 (λhm=>hh ?_)
   rw[<-hb,alQ b hm];rfl
  ·intro b hb
   obtain⟨h1,h2⟩:=Ro b hb
   refine⟨h1,?_⟩
   rcases h2 with h2|h2|h2
   ·exact .inl (by rw[alQ b h2];rfl)
   ·exact .inl (by rw[hlq b (th b h2)];rfl)
   ·exact .inr h2
 split at hk;rename_i fl e' ys st2 PR;split at hk;rename_i hee;subst hee;split at hk;rename_i hc;obtain⟨hT,hT',hgv⟩:=hc;unfold room at hk;split at hk;rename_i NR;rw[PR]at OJ;have afc:dM C g2 st2 a w [(a.eval s,.val false [.sl (.own tag) e' xs]),(a.eval x,.val false [.sl fl e' ys])]:=OJ;obtain⟨fq,hrx,hnq,hlq⟩:=afc.hands 1 _ _ rfl;obtain⟨te',X4,_⟩:=Mu hE hT';have Ck:st2.ep=st.ep:=by have h1:= @aaY st s;have h2:= @aaY st1 x;rw[Z0]at h1;rw[PR]at h2;exact h2.trans h1
 have hcx:=eG hrx;cases fl with
 |nest _ _ _ _ _ _=>simp[uv.zw]at hgv
 |part _ _ _ _=>simp[uv.zw]at hgv
 |fK _ _ _=>simp[uv.zw]at hgv
 |own tg=>obtain⟨news,EE,PQ,LW,th,JK⟩:=aoZ (P:=P) hcx.1;exact fin _ st2 PR afc ys news EE fq hrx hlq hT _ X4 (by simp) PQ LW th (JK hnq) NR hk
 |arg _=>obtain⟨news,PQ,LW⟩:=ahY (P:=P) hcx.2 (by simpa[uv.zw]using hgv) g2.hw;exact fin _ st2 PR afc ys news _ fq hrx hlq hT _ X4 (by simp) PQ LW (by simp) (by simp) NR hk
 |loc ep pv=>
  simp only[uv.zw,ah,bn]at hgv;have azA:ep=(cO C g2 st2 w).ep:=by show ep=st2.ep;rw[Ck];exact hgv.1
  obtain⟨news,PQ,LW⟩:=ahY (P:=P) (hcx.2.2.2.1 azA) hgv.2 g2.hw;exact fin _ st2 PR afc ys news _ fq hrx hlq hT _ X4 (by simp) PQ LW (by simp) (by simp) NR hk
 cases hk;cases hk;cases hk;rename_i s0 st2 PR;split at hk;rename_i hee;subst hee;split at hk;rename_i hc;obtain⟨hT,hT'⟩:=hc;unfold room at hk;split at hk;rename_i NR;rw[PR]at OJ;have afc:dM C g2 st2 a w [(a.eval s,.val false [.sl (.own tag) (.int .u8) xs]),(a.eval x,.val false [.str s0])]:=OJ;obtain⟨fq,hrx,hnq,hlq⟩:=afc.hands 1 _ _ rfl;have hcx:=eG hrx;obtain⟨news,PQ,LW⟩:=ao0 (P:=P) (w:=w) s0 g2.hw;rw[<-hcx.1]at PQ;have hl:(da s0).length=s0.length:=by simp[da]
 exact fin _ st2 PR afc (da s0) news _ fq hrx hlq hT _ (aaT hE hT') (by simp) PQ LW (by simp) (by simp) (by rw[hl];exact NR) hk;cases hk;cases hk;cases hk;cases hk;cases hk;cases hk
end Go.Dn
