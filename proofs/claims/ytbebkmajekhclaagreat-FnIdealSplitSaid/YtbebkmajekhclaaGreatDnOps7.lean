import Derived.Test.YtbebkmajekhclaaGreatDnOps6
/- Part 7: append. -/
namespace Go.Dn
open Go.RowKit
variable {P:Program} {C:Ctx} {st:AS} {a:Act} {w:World} {R:Type} {r:R}
variable {e:CT} {hw:Nat->Nat}
structure Src (P:Program) (w:World) (size:Nat) (u:Value) (m:Nat) (news:List Value):Prop where
 len:∀w1:World,(Builtin.lenOf u).run P w1=.ok m w1
 first:∀w1:World,w1.heap=w.heap->(Builtin.firstCells size m u).run P w1=.ok news.toArray w1
theorem abN {t t' ty te:TypeId}(ht:P.underlying t=some (.slice te))(he:PQ P te e){dt:TypeDesc}(ht':P.underlying t'=some dt)(hdt:∀k,dt≠ .int k){v u:Value}{xs ys:aw e.D}{fp:fA}{news:jf}{Br:aw fA}(iG:fR hw w (.sl e) [v] xs fp)(Lt:Src P w e.size u ys.length news)(IH:lq hw w e news ys Br)(gr:∀b∈fp++Br.flatten,b<w.heap.size)(Jr:(fp++Br.flatten).Nodup)(Ju:xs.length+ys.length<=1073741824): ∃v' w' hw' ld,(Builtin.append_ #[t,t'] ty #[v,u]).run P w=.ok v' w'/\fR hw' w' (.sl e) [v'] (xs++ys) ld/\Fr (λb=>b∈fp) w w'/\(∀b,b<w.heap.size->b∉fp->hw' b=hw b)/\ (∀b o x,o<hw b->w.cell? ⟨b,o,none⟩=some x->o<hw' b/\w'.cell? ⟨b,o,none⟩=some x)/\ld.Nodup/\∀b∈ld,b<w'.heap.size/\(b∈fp\/b∈Br.flatten\/w.heap.size<=b):=by
 obtain⟨⟨inf,z,Fa,uU,hby,hz,hzc⟩,_⟩:=he;have hzs:z.cells.size=e.size:=by rw[<-qN e,<-hzc];simp
 have ag8:=e.size_pos;have hnz:(match dt with| .int _=>true|_=>false)=false:=by cases dt<;>simp;exact absurd rfl (hdt _)
 have WJ:=Lt.first w rfl
 have anH:=Lt.first w.drew rfl
 have hlen:=Lt.len;have N3:=IH.1;have h63:¬((xs.length+ys.length:Nat):Int)>IntKind.i64.max:=by
  have:IntKind.i64.max=9223372036854775807:=by decide
  omega
 have grow:∀(Xe:jf)(R6:Nat)(fps:aw fA),(∀w1:World,w1.heap=w.heap->(Builtin.firstCells e.size xs.length v).run P w1=.ok Xe.toArray w1)->(∃base,v=.slice base xs.length R6)->R6<xs.length+ys.length->
  lq hw w e Xe xs fps->(fps.flatten++Br.flatten).Nodup->(∀b∈fps.flatten,b∈fp)->
  ∃v' w' hw' ld,(Builtin.append_ #[t,t'] ty #[v,u]).run P w=.ok v' w'/\fR hw' w' (.sl e) [v'] (xs++ys) ld/\Fr (λb=>b∈fp) w w'/\(∀b,b<w.heap.size->b∉fp->hw' b=hw b)/\
  (∀b o x,o<hw b->w.cell? ⟨b,o,none⟩=some x->o<hw' b/\w'.cell? ⟨b,o,none⟩=some x)/\ld.Nodup/\∀b∈ld,b<w'.heap.size/\(b∈fp\/b∈Br.flatten\/w.heap.size<=b):=by
  intro Xe R6 fps hold asp Jd WH ayu sK
  obtain⟨base,rfl⟩:=asp
  have asK:=hold w.drew rfl
  have ik:Builtin.nextslicecap (xs.length+ys.length) R6*inf.bytes<=281474976710656:=by refine growslice_fits Jd ?_;have:(xs.length+ys.length)*inf.bytes<=1073741824*65536:=Nat.mul_le_mul Ju hby;omega
  have fg:(Builtin.append_ #[t,t'] ty #[.slice base xs.length R6,u]).run P w=
   .ok (.slice (some ⟨w.heap.size,0,none⟩) (xs.length+ys.length) (grownCap w (xs.length+ys.length) R6 te))
    (w.drew.alloc (.cells (Xe.toArray++news.toArray++Builtin.zeroCells z.cells (grownCap w (xs.length+ys.length) R6 te-(xs.length+ys.length))) te)):=by
   have h1:¬(xs.length+ys.length<=R6):=by omega
   have h2:¬(281474976710656<Builtin.nextslicecap (xs.length+ys.length) R6*inf.bytes):=by omega
   simp only[Builtin.append_]
   simp only[underlying,Sem.run_bind,run_program,ht,ht',Result.andThen_ok,Sem.run_pure,sizeOf,typeInfo,Fa,uU,List.getElem?_toArray,cR,fI,hlen,aM,bn,cJ,
    h1,h63,false_and,cz,zeroValue,newRow]
   rw[aK (by simpa using h2)]
   simp only[Sem.run_bind,run_choose,Question.forced,bn,cJ,Result.andThen_ok,run_program,Fa,run_askRoom,Sem.run_pure]
   have e1:=asK
   have e2:=anH
   simp only[World.drew]at e1 e2
   simp only[e1,e2,Result.andThen_ok,hz,Sem.run_pure,run_newObj]
   rfl
  have BN:=grownCap_ge w (xs.length+ys.length) R6 te
  generalize grownCap w (xs.length+ys.length) R6 te=nc at fg BN
  have ayF:(Builtin.zeroCells z.cells (nc-(xs.length+ys.length))).size=(nc-(xs.length+ys.length))*e.size:=by rw[size_zeroCells,hzs]
  let jv:Array Value:=Xe.toArray++news.toArray++Builtin.zeroCells z.cells (nc-(xs.length+ys.length))
  have hlo:=WH.1
  have ax9:jv.size=nc*e.size:=by show(Xe.toArray++news.toArray++Builtin.zeroCells z.cells (nc-(xs.length+ys.length))).size=_;rw[Array.size_append,Array.size_append,ayF];simp only[List.size_toArray,hlo,N3,<-dc];congr 1;omega
  let hw':Nat->Nat:=λb=>if b=w.heap.size then(xs++ys).length*e.size else hw b
  have ag7:(w.drew.alloc (.cells jv te)).heap[w.heap.size]?=some (.cells jv te (0,0)):=heap_alloc_new w.drew _
  have apa:∀b,b<w.heap.size->(w.drew.alloc (.cells jv te)).heap[b]?=w.heap[b]?:=λb hb=>heap_alloc_old w.drew _ b hb
  have vd:jv.toList.take ((xs++ys).length*e.size)=Xe++news:=by
   show(Xe.toArray++news.toArray++Builtin.zeroCells z.cells (nc-(xs.length+ys.length))).toList.take _=_;rw[Array.toList_append,Array.toList_append];have:(Xe++news).length=(xs++ys).length*e.size:=by simp only[ai,hlo,N3,dc]
   rw[<-this];exact List.take_left
  have aqn:∀b∈(fps++Br).flatten,b<w.heap.size:=by intro b hb;rw[eP,aA]at hb;exact gr b (by rcases hb with hb|hb;exact bP _ (sK b hb);exact bD _ hb)
  refine⟨_,_,hw',w.heap.size::(fps++Br).flatten,fg,?_,?_,?_,?_,?_,?_⟩
  ·have:=ad0 (hw:=hw') (o0:=0) (xs:=xs++ys) (cap:=nc) ag7 (by intro j _;simp) (by rw[cO];exact ax9) (by simp;omega) (by simp[hw']) (fps:=fps++Br) (by rw[eG,vd];refine(WH.append IH).mono (λb hb=>?_);have iz:=aqn b hb;exact⟨apa b iz,by simp[hw',iK iz]⟩)
   rw[ai]at this
   exact this
  ·exact(Fr.drew _ w).trans (Fr.alloc _ _ _) (λb _ hh=>hh)
  ·intro b hb _;simp[hw',iK hb]
  ·intro b o x ho hx
   have hb:b<w.heap.size:=World.block_lt_of_cell? w _ hx
   exact⟨by simp[hw',iK hb];exact ho,by rw[World.cell?_of_block (a:=⟨b,o,none⟩) (apa b hb)];exact hx⟩
  ·refine dC.2 ⟨λhm=>oo _ (aqn _ hm),?_⟩
   rw[eP];exact ayu
  ·intro b hb
   rcases bZ.1 hb with rfl|hb
   ·exact⟨by simp,.inr (.inr (bt _))⟩
   ·have iz:=aqn b hb
    refine⟨by simp;omega,?_⟩
    rw[eP,aA]at hb
    rcases hb with hb|hb
    ·exact .inl (sK b hb)
    ·exact .inr (.inl hb)
 obtain⟨vv,hvv,ho⟩:=id iG;simp at hvv;subst hvv;rcases ho with⟨⟨ad,rfl⟩,rfl,rfl⟩|⟨b,o0,cap,arr,T,fr,fps,rfl,hb,uO,hs,hc,hh,rfl,hl,ho⟩;have ayi:∀w1:World,(Builtin.firstCells e.size ([]:aw e.D).length (.slice ad 0 0)).run P w1=.ok ([]:jf).toArray w1:=by intro w1;cases ad with|none=>simp[Builtin.firstCells]|some ad=>exact run_firstCells_some (P:=P) w1 e.size 0 ad 0 0 [] (by simp) (λj x hj=>by simp at hj)
 by_cases hm:ys.length=0;have hy:ys=[]:=cQ hm;subst hy;refine⟨.slice ad 0 0,w,hw,[],?_,⟨_,rfl,.inl ⟨⟨_,rfl⟩,rfl,rfl⟩⟩,Fr.refl _ _,λ_ _ _=>rfl,λ_ _ _ ho hx=>⟨ho,hx⟩,by simp,by simp⟩;simp only[Builtin.append_];simp only[underlying,Sem.run_bind,run_program,ht,ht',Result.andThen_ok,Sem.run_pure,sizeOf,typeInfo,Fa,uU,List.getElem?_toArray,cR,fI,hlen,bn,cJ,bH,cz];simp only[da]at WJ;have asH:news=[]:=cQ (by rw[N3];simp);subst asH;simp[WJ];cases ad<;>simp[storeCells];refine grow [] 0 [] (λw1 _=>ayi w1) ⟨ad,by simp⟩ (by simp;omega) (lq.nil _ _ _) (by simpa using Jr) (by simp);have WH:=Nc hs hc hl ho;have hln:o0+xs.length*e.size<=arr.size:=by rw[hs];exact Nat.add_le_add_left (de _ hc) _
 have hol:((arr.toList.drop o0).take (xs.length*e.size)).length=xs.length*e.size:=WH.1;by_cases ak0:xs.length+ys.length<=cap;have ik:o0+xs.length*e.size+news.length<=arr.size:=by rw[N3,hs,gi,<-dc];exact Nat.add_le_add_left (de _ ak0) _
 have nD:=yz P b (o0+xs.length*e.size) T fr news 0 w arr hb uO (by simpa using ik) IH.nS;simp only[eN]at nD;have fg:(Builtin.append_ #[t,t'] ty #[.slice (some ⟨b,o0,none⟩) xs.length cap,u]).run P w=.ok (.slice (some ⟨b,o0,none⟩) (xs.length+ys.length) cap) (wQ w b (fw arr (o0+xs.length*e.size) news) T fr):=by simp only[Builtin.append_];simp only[underlying,Sem.run_bind,run_program,ht,ht',Result.andThen_ok,Sem.run_pure,sizeOf,typeInfo,Fa,uU,List.getElem?_toArray,cR,fI,hlen,bn,cJ,bH,cz,ak0,WJ,om,nD]
 have IG:=mQ hb;rw[List.cons_append]at Jr;have yL:b∉fps.flatten++Br.flatten:=(dC.1 Jr).1;let hw':Nat->Nat:=λc=>if c=b then o0+(xs++ys).length*e.size else hw c
 refine⟨_,_,hw',b::(fps++Br).flatten,fg,?_,?_,?_,?_,?_,?_⟩;have vd:((fw arr (o0+xs.length*e.size) news).toList.drop o0).take ((xs++ys).length*e.size)=(arr.toList.drop o0).take (xs.length*e.size)++news:=by
  have h2:((arr.toList.drop o0).take (xs.length*e.size)++news).length=(xs++ys).length*e.size:=by simp only[ai,hol,N3,dc]
  have h3:(xs++ys).length*e.size=xs.length*e.size+news.length:=by rw[ai,dc,N3]
  apply dj;intro j;rw[jS];by_cases hj:j<(xs++ys).length*e.size;rw[aI hj,AX ik];by_cases h1:j<xs.length*e.size;rw[nI,bK (by omega),jS,aI h1];rw[zip,bA (by omega),hol];congr 1;omega;rw[aK hj,bJ (by omega)]
 have:=ad0 (hw:=hw') (w:=wQ w b (fw arr (o0+xs.length*e.size) news) T fr) (xs:=xs++ys) (cap:=cap) (fps:=fps++Br) (zE IG) (λj hj=>uO j (by rwa[jb]at hj)) (by rw[jb];exact hs) (by simp;omega) (by simp[hw']) (by
  rw[vd];refine(WH.append IH).mono (λc Cy=>?_);have Fe:c≠b:=by rintro rfl;exact yL (by rwa[eP]at Cy)
  exact⟨nA Fe,by simp[hw',Fe]⟩)
 rw[ai]at this;exact this;exact⟨rfl,rfl,rfl,by rw[my];exact bt _,λc _ Cy=>nA (λe=>Cy (by simp[e]))⟩;intro c _ Cy;have Fe:c≠b:=λe=>Cy (by simp[e]);simp[hw',Fe];intro c o x O7 hx;by_cases hcb:c=b;subst hcb;rw[hh]at O7;refine⟨?_,?_⟩;simp only[hw',cz,ai,dc];omega;rw[qg (zE IG),<-cV,AX ik,nI,cV,<-qg hb];exact hx;exact⟨by simp[hw',hcb];exact O7,by rw[World.cell?_of_block (a:=⟨c,o,none⟩) (nA hcb)];exact hx⟩;refine dC.2 ⟨by rw[eP];exact yL,?_⟩;rw[eP];exact(dC.1 Jr).2;intro c Cy;rw[my];rcases bZ.1 Cy with rfl|Cy;exact⟨IG,.inl (by simp)⟩;rw[eP,aA]at Cy;rcases Cy with Cy|Cy;exact⟨gr c (by simp[Cy]),.inl (by simp[Cy])⟩;exact⟨gr c (by simp[Cy]),.inr (.inl Cy)⟩;refine grow ((arr.toList.drop o0).take (xs.length*e.size)) cap fps (λw1 hw1=>?_) ⟨_,rfl⟩ (by omega) WH ?_ (λc Cy=>by simp[Cy]);refine run_firstCells_some (P:=P) w1 e.size xs.length ⟨b,o0,none⟩ xs.length cap _ hol (λj x hj=>?_);have hb1:w1.heap[b]?=some (.cells arr T fr):=by rw[hw1];exact hb
 rw[om,qg hb1];rw[jS]at hj;split at hj;simpa using hj;cases hj;rw[List.cons_append]at Jr;exact(dC.1 Jr).2
def wY (w:World)(b o n:Nat):jf:=(List.range n).map λj=>(w.cell? ⟨b,o+j,none⟩).getD undef
theorem af6 {S:Nat->Nat->Prop}{u:Value}{ys:aw e.D}(h:jM w S (.sl e) [u] ys)(hf:e.flat=true)(hw:Nat->Nat): ∃news,Src P w e.size u ys.length news/\lq hw w e news ys (List.replicate ys.length []):=by
 obtain⟨v,hv,h⟩:=h;simp at hv;subst hv;rcases h with⟨⟨ad,rfl⟩,rfl⟩|⟨b,o,cap,rfl,hc,h⟩;cases ad with|none=>exact⟨[],⟨λ_=>rfl,λ_ _=>rfl⟩,lq.nil _ _ _⟩|some ad=>exact⟨[],⟨λ_=>rfl,λw1 _=>run_firstCells_some (P:=P) w1 e.size 0 ad 0 0 [] (by simp) (λj x hj=>by simp at hj)⟩,lq.nil _ _ _⟩
 have E8:∀j,j<ys.length*e.size->∃x,w.cell? ⟨b,o+j,none⟩=some x:=by
  intro j hj;have hi:j/e.size<ys.length:=by rw[Nat.div_lt_iff_lt_mul e.size_pos];exact hj
  obtain⟨cs,MB,hr⟩:=h (j/e.size) _ (ak hi);have hm:j%e.size<cs.length:=by rw[jM.length hr];exact Nat.mod_lt _ e.size_pos
  have:=(MB (j%e.size) _ (ak hm)).2;rw[gi,Nat.mul_comm,Nat.div_add_mod]at this;exact⟨_,this⟩
 have iL:∀j x,(wY w b o (ys.length*e.size))[j]?=some x->w.cell? ⟨b,o+j,none⟩=some x:=by intro j x hx;simp only[wY,List.getElem?_map]at hx;rcases bT j (ys.length*e.size)with hj|hj;rw[List.getElem?_range hj]at hx;obtain⟨y,hy⟩:=E8 j hj;simp[hy]at hx;rw[hy,hx];rw[bJ (by simpa using hj)]at hx;cases hx
 have hlen:(wY w b o (ys.length*e.size)).length=ys.length*e.size:=by simp[wY]
 refine⟨wY w b o (ys.length*e.size),⟨λ_=>rfl,λw1 hw1=>?_⟩,⟨hlen,by simp,λi y f hy hf'=>?_⟩⟩;refine run_firstCells_some (P:=P) w1 e.size ys.length ⟨b,o,none⟩ ys.length cap _ hlen (λj x hj=>?_);rw[om];have:=iL j x hj;simpa[World.cell?,hw1]using this;have hi:i<ys.length:=(aC.1 hy).1;have CV:f=[]:=by rw[eS,aI hi]at hf';simpa using hf'.symm
 subst CV;obtain⟨cs,MB,hr⟩:=h i y hy;have hm:(i+1)*e.size<=ys.length*e.size:=de _ hi;rw[dc,fJ]at hm;have e1:((wY w b o (ys.length*e.size)).drop (i*e.size)).take e.size=cs:=by
  apply dj;intro j;rw[jS];have hcl:=jM.length hr;split;rename_i hj;have hjc:j<cs.length:=by omega
  have hx:=(MB j _ (ak hjc)).2;have h2:(wY w b o (ys.length*e.size))[i*e.size+j]?=some cs[j]:=by simp only[wY,List.getElem?_map,List.getElem?_range (show i*e.size+j<ys.length*e.size by omega),dD];rw[<-gi,hx];rfl
  rw[h2,ak hjc];rw[bJ (by omega)]
 rw[e1];exact QM hr hf
theorem aoA {u:Value}{ys:aw e.D}{fp:fA}(h:fR hw w (.sl e) [u] ys fp): ∃news Br,Src P w e.size u ys.length news/\lq hw w e news ys Br/\(∀b∈Br.flatten,b∈fp)/\(fp.Nodup->Br.flatten.Nodup):=by
 obtain⟨v,hv,h⟩:=h;simp at hv;subst hv;rcases h with⟨⟨ad,rfl⟩,rfl,rfl⟩|⟨b,o0,cap,arr,T,fr,fps,rfl,hb,uO,hs,hc,hh,rfl,hl,ho⟩;refine⟨[],[],⟨λ_=>rfl,λw1 _=>?_⟩,lq.nil _ _ _,by simp,by simp⟩;cases ad with|none=>rfl|some ad=>exact run_firstCells_some (P:=P) w1 e.size 0 ad 0 0 [] (by simp) (λj x hj=>by simp at hj)
 have WH:=Nc hs hc hl ho;refine⟨_,fps,⟨λ_=>rfl,λw1 hw1=>?_⟩,WH,λc Cy=>by simp[Cy],λhn=>(dC.1 hn).2⟩;refine run_firstCells_some (P:=P) w1 e.size ys.length ⟨b,o0,none⟩ ys.length cap _ WH.1 (λj x hj=>?_);have hb1:w1.heap[b]?=some (.cells arr T fr):=by rw[hw1];exact hb
 rw[om,qg hb1];rw[jS]at hj;split at hj;simpa using hj;cases hj
theorem aoB (s:aw UInt8)(hw:Nat->Nat):∃news,Src P w (CT.size (.int .u8)) (.string ⟨s.toArray⟩) (fX s).length news/\lq hw w (.int .u8) news (fX s) (List.replicate (fX s).length []):=by
 have hl:(fX s).length=s.length:=by simp[fX]
 refine⟨(fX s).map (Value.int .u8),⟨λw1=>by simp[Builtin.lenOf,Ad,hl],λw1 _=>?_⟩,⟨by simp[CT.size],by simp,λi y f hy hf=>?_⟩⟩;have:(ByteArray.mk s.toArray).extract 0 s.length=ByteArray.mk s.toArray:=by rw[extract_mk];simp
 simp[Builtin.firstCells,this,fX];have hi:i<(fX s).length:=(aC.1 hy).1;have hf':f=[]:=by rw[eS,aI hi]at hf;simpa using hf.symm
 subst hf';refine⟨?_,rfl⟩;apply dj;intro j;rw[jS];simp only[CT.size,oq];cases j with|zero=>simp[hy]|succ j=>simp
theorem YB {o:Oper}{s x:Operand}{t t':TypeId}(ho:o.op=.call {callee:=.builtin .append,args:=#[s,x],argTypes:=#[t,t']}){v:Value}{w':World}(h:(Builtin.append_ #[t,t'] o.type #[a.eval s,a.eval x]).run P w=.ok v w'):(execOp a.eval o).run P w=.ok (.value v) w':=by
 have e1:(#[s,x]:Array Operand).map a.eval=#[a.eval s,a.eval x]:=by simp
 simp only[execOp,ho,resolve,e1,Sem.run_bind,Sem.run_pure,Result.andThen_ok,invoke,builtin];show((Builtin.append_ #[t,t'] o.type #[a.eval s,a.eval x]).run P w).andThen _=_;rw[h];rfl
theorem X9 {E:Env}(hE:ka P E.ty){o:Oper}{args:Array Operand}{ts:Array TypeId}(ho:o.op=.call {callee:=.builtin .append,args,argTypes:=ts})(h:py C st a w){K:AS->az R}(hk:zF E o ts.toList args.toList st K=some r):nG P C o a w K r:=by
 obtain⟨g,hg⟩:=h;unfold zF at hk;split at hk;rename_i t t' s x vK gP;have ea:args=#[s,x]:=by apply fN;simpa using gP
 have et:ts=#[t,t']:=by apply fN;simpa using vK
 subst ea;subst et;split at hk;rename_i tag e xs st1 WQ;obtain⟨g1,hg1⟩:=hg.take s;rw[WQ]at hg1;simp only[bz]at hg1;obtain⟨g2,Kn⟩:=hg1.take x
 have fin:∀(u:AV)(st2:AS),st1.take x=(u,st2)->eE C g2 st2 a w [(a.eval s,.val false [.sl (.own tag) e xs]),(a.eval x,u)]->∀(ys:aw e.D)(news:jf)(Br:aw fA)(fq:fA),
  gS (dq C g2 st2 w) (a.eval x) u fq->(∀b∈fq,g2.fj b=some (.hand 1))->E.sl t=some e->∀dt,P.underlying t'=some dt->(∀k,dt≠ .int k)->
  Src P w e.size (a.eval x) ys.length news->lq g2.hw w e news ys Br->(∀b∈Br.flatten,b∈fq)->Br.flatten.Nodup->xs.length+ys.length<=1073741824->
  K (st2.ri o.dst e (xs++ys))=some r->nG P C o a w K r:=by
  intro u st2 _ Kn ys news Br fq _ hlq hT dt hdt ayd Lt IH sK Jr Ju WM
  obtain⟨fp,hrs,ayw,akS⟩:=Kn.hands 0 _ _ rfl
  have iG:=(fu hrs).1
  obtain⟨te,hu,he⟩:=H4 hE hT
  have gr:∀b∈fp++Br.flatten,b<w.heap.size:=by intro b hb;rcases aA.1 hb with hb|hb;exact(Kn.gN b _ (akS b hb)).1;exact(Kn.gN b _ (hlq b (sK b hb))).1
  have ays:(fp++Br.flatten).Nodup:=by refine aQ.2 ⟨ayw,Jr,?_⟩;rintro b hb c hc rfl;have h1:=akS b hb;rw[hlq b (sK b hc)]at h1;cases h1
  obtain⟨v',w',hw',ld,fg,Lq,jt,II,Lr,WN,MS⟩:=abN (ty:=o.type) hu he hdt ayd iG Lt IH gr ays Ju
  refine⟨v',w',_,.inl (YB ho fg),?_,WM⟩
  refine Kn.RY o.dst (hw':=hw') (fp:=ld) ⟨jt.os,jt.tape,jt.output,jt.size,λb hb hh=>jt.block b hb (λhm=>hh (by rw[akS b hm];rfl))⟩ ?_ Lr Lq WN ?_
  ·intro b y hb hh
   refine II b (Kn.gN b y hb).1 (λhm=>hh ?_)
   rw[<-hb,akS b hm];rfl
  ·intro b hb
   obtain⟨h1,h2⟩:=MS b hb
   refine⟨h1,?_⟩
   rcases h2 with h2|h2|h2
   ·exact .inl (by rw[akS b h2];rfl)
   ·exact .inl (by rw[hlq b (sK b h2)];rfl)
   ·exact .inr h2
 split at hk;rename_i fl e' ys st2 Lu;split at hk;rename_i hee;subst hee;split at hk;rename_i hc;obtain⟨hT,hT',hgv⟩:=hc;unfold room at hk;split at hk;rename_i Ju;rw[Lu]at Kn;have adi:eE C g2 st2 a w [(a.eval s,.val false [.sl (.own tag) e' xs]),(a.eval x,.val false [.sl fl e' ys])]:=Kn;obtain⟨fq,hrx,hnq,hlq⟩:=adi.hands 1 _ _ rfl;obtain⟨te',WR,_⟩:=H4 hE hT';have Bs:st2.ep=st.ep:=by have h1:= @XT st s;have h2:= @XT st1 x;rw[WQ]at h1;rw[Lu]at h2;exact h2.trans h1
 have hcx:=fu hrx;cases fl with
 |nest _ _ _ _ _ _=>simp[sn.sG]at hgv
 |part _ _ _ _=>simp[sn.sG]at hgv
 |fS _ _ _=>simp[sn.sG]at hgv
 |own tg=>obtain⟨news,Br,Lt,IH,sK,Jr⟩:=aoA (P:=P) hcx.1;exact fin _ st2 Lu adi ys news Br fq hrx hlq hT _ WR (by simp) Lt IH sK (Jr hnq) Ju hk
 |arg _=>obtain⟨news,Lt,IH⟩:=af6 (P:=P) hcx.2 (by simpa[sn.sG]using hgv) g2.hw;exact fin _ st2 Lu adi ys news _ fq hrx hlq hT _ WR (by simp) Lt IH (by simp) (by simp) Ju hk
 |loc ep pv=>
  simp only[sn.sG,af,ba]at hgv;have ayg:ep=(dq C g2 st2 w).ep:=by show ep=st2.ep;rw[Bs];exact hgv.1
  obtain⟨news,Lt,IH⟩:=af6 (P:=P) (hcx.2.2.2.1 ayg) hgv.2 g2.hw;exact fin _ st2 Lu adi ys news _ fq hrx hlq hT _ WR (by simp) Lt IH (by simp) (by simp) Ju hk
 cases hk;cases hk;cases hk;rename_i s0 st2 Lu;split at hk;rename_i hee;subst hee;split at hk;rename_i hc;obtain⟨hT,hT'⟩:=hc;unfold room at hk;split at hk;rename_i Ju;rw[Lu]at Kn;have adi:eE C g2 st2 a w [(a.eval s,.val false [.sl (.own tag) (.int .u8) xs]),(a.eval x,.val false [.str s0])]:=Kn;obtain⟨fq,hrx,hnq,hlq⟩:=adi.hands 1 _ _ rfl;have hcx:=fu hrx;obtain⟨news,Lt,IH⟩:=aoB (P:=P) (w:=w) s0 g2.hw;rw[<-hcx.1]at Lt;have hl:(fX s0).length=s0.length:=by simp[fX]
 exact fin _ st2 Lu adi (fX s0) news _ fq hrx hlq hT _ (XO hE hT') (by simp) Lt IH (by simp) (by simp) (by rw[hl];exact Ju) hk;cases hk;cases hk;cases hk;cases hk;cases hk;cases hk
end Go.Dn
