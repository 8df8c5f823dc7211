import Derived.Test.YtbebkmajekhclaaGreatDnOps6
/- Part 7: append. -/
namespace Go.Dn
open Go.RowKit
variable {P:Program} {C:Ctx} {st:AS} {a:Act} {w:World} {R:Type} {r:R}
variable {e:CT} {hw:Nat->Nat}
structure Src (P:Program) (w:World) (size:Nat) (u:Value) (m:Nat) (news:List Value):Prop where
 len:∀w1:World,(Builtin.lenOf u).run P w1=.ok m w1
 first:∀w1:World,w1.heap=w.heap->(Builtin.firstCells size m u).run P w1=.ok news.toArray w1
theorem abG {t t' ty te:TypeId}(ht:P.underlying t=some (.slice te))(he:Pw P te e){dt:TypeDesc}(ht':P.underlying t'=some dt)(hdt:∀k,dt≠ .int k){v u:Value}{xs ys:aw e.D}{fp:fM}{news:jJ}{AW:aw fM}(ja:gA hw w (.sl e) [v] xs fp)(KH:Src P w e.size u ys.length news)(GN:ma hw w e news ys AW)(hG:∀b∈fp++AW.flatten,b<w.heap.size)(HZ:(fp++AW.flatten).Nodup)(II:xs.length+ys.length<=1073741824): ∃v' w' hw' lO,(Builtin.append_ #[t,t'] ty #[v,u]).run P w=.ok v' w'/\gA hw' w' (.sl e) [v'] (xs++ys) lO/\Fr (λb=>b∈fp) w w'/\(∀b,b<w.heap.size->b∉fp->hw' b=hw b)/\ (∀b o x,o<hw b->w.cell? ⟨b,o,none⟩=some x->o<hw' b/\w'.cell? ⟨b,o,none⟩=some x)/\lO.Nodup/\∀b∈lO,b<w'.heap.size/\(b∈fp\/b∈AW.flatten\/w.heap.size<=b):=by
 obtain⟨⟨inf,z,Ez,wI,hby,hz,hzc⟩,_⟩:=he;have hzs:z.cells.size=e.size:=by rw[<-rz e,<-hzc];simp
 have ag6:=e.size_pos;have hnz:(match dt with| .int _=>true|_=>false)=false:=by cases dt<;>simp;exact absurd rfl (hdt _)
 have WK:=KH.first w rfl
 have anx:=KH.first w.drew rfl
 have hlen:=KH.len;have NL:=GN.1;have h63:¬((xs.length+ys.length:Nat):Int)>IntKind.i64.max:=by
  have:IntKind.i64.max=9223372036854775807:=by decide
  omega
 have grow:∀(Xi:jJ)(RV:Nat)(fps:aw fM),(∀w1:World,w1.heap=w.heap->(Builtin.firstCells e.size xs.length v).run P w1=.ok Xi.toArray w1)->(∃base,v=.slice base xs.length RV)->RV<xs.length+ys.length->
  ma hw w e Xi xs fps->(fps.flatten++AW.flatten).Nodup->(∀b∈fps.flatten,b∈fp)->
  ∃v' w' hw' lO,(Builtin.append_ #[t,t'] ty #[v,u]).run P w=.ok v' w'/\gA hw' w' (.sl e) [v'] (xs++ys) lO/\Fr (λb=>b∈fp) w w'/\(∀b,b<w.heap.size->b∉fp->hw' b=hw b)/\
  (∀b o x,o<hw b->w.cell? ⟨b,o,none⟩=some x->o<hw' b/\w'.cell? ⟨b,o,none⟩=some x)/\lO.Nodup/\∀b∈lO,b<w'.heap.size/\(b∈fp\/b∈AW.flatten\/w.heap.size<=b):=by
  intro Xi RV fps hold asc KA WI axv rP
  obtain⟨base,rfl⟩:=asc
  have asy:=hold w.drew rfl
  have iO:Builtin.nextslicecap (xs.length+ys.length) RV*inf.bytes<=281474976710656:=by refine growslice_fits KA ?_;have:(xs.length+ys.length)*inf.bytes<=1073741824*65536:=Nat.mul_le_mul II hby;omega
  have fD:(Builtin.append_ #[t,t'] ty #[.slice base xs.length RV,u]).run P w=
   .ok (.slice (some ⟨w.heap.size,0,none⟩) (xs.length+ys.length) (grownCap w (xs.length+ys.length) RV te))
    (w.drew.alloc (.cells (Xi.toArray++news.toArray++Builtin.zeroCells z.cells (grownCap w (xs.length+ys.length) RV te-(xs.length+ys.length))) te)):=by
   have h1:¬(xs.length+ys.length<=RV):=by omega
   have h2:¬(281474976710656<Builtin.nextslicecap (xs.length+ys.length) RV*inf.bytes):=by omega
   simp only[Builtin.append_]
   simp only[underlying,Sem.run_bind,run_program,ht,ht',Result.andThen_ok,Sem.run_pure,sizeOf,typeInfo,Ez,wI,List.getElem?_toArray,cM,fW,hlen,aO,bm,cC,
    h1,h63,false_and,cw,zeroValue,newRow]
   rw[aG (by simpa using h2)]
   simp only[Sem.run_bind,run_choose,Question.forced,bm,cC,Result.andThen_ok,run_program,Ez,run_askRoom,Sem.run_pure]
   have e1:=asy
   have e2:=anx
   simp only[World.drew]at e1 e2
   simp only[e1,e2,Result.andThen_ok,hz,Sem.run_pure,run_newObj]
   rfl
  have CF:=grownCap_ge w (xs.length+ys.length) RV te
  generalize grownCap w (xs.length+ys.length) RV te=nc at fD CF
  have axG:(Builtin.zeroCells z.cells (nc-(xs.length+ys.length))).size=(nc-(xs.length+ys.length))*e.size:=by rw[size_zeroCells,hzs]
  let jX:Array Value:=Xi.toArray++news.toArray++Builtin.zeroCells z.cells (nc-(xs.length+ys.length))
  have hlo:=WI.1
  have axb:jX.size=nc*e.size:=by show(Xi.toArray++news.toArray++Builtin.zeroCells z.cells (nc-(xs.length+ys.length))).size=_;rw[Array.size_append,Array.size_append,axG];simp only[List.size_toArray,hlo,NL,<-dk];congr 1;omega
  let hw':Nat->Nat:=λb=>if b=w.heap.size then(xs++ys).length*e.size else hw b
  have ag5:(w.drew.alloc (.cells jX te)).heap[w.heap.size]?=some (.cells jX te (0,0)):=heap_alloc_new w.drew _
  have ao3:∀b,b<w.heap.size->(w.drew.alloc (.cells jX te)).heap[b]?=w.heap[b]?:=λb hb=>heap_alloc_old w.drew _ b hb
  have vm:jX.toList.take ((xs++ys).length*e.size)=Xi++news:=by
   show(Xi.toArray++news.toArray++Builtin.zeroCells z.cells (nc-(xs.length+ys.length))).toList.take _=_;rw[Array.toList_append,Array.toList_append];have:(Xi++news).length=(xs++ys).length*e.size:=by simp only[ai,hlo,NL,dk]
   rw[<-this];exact List.take_left
  have aqc:∀b∈(fps++AW).flatten,b<w.heap.size:=by intro b hb;rw[eO,aA]at hb;exact hG b (by rcases hb with hb|hb;exact bH _ (rP b hb);exact bz _ hb)
  refine⟨_,_,hw',w.heap.size::(fps++AW).flatten,fD,?_,?_,?_,?_,?_,?_⟩
  ·have:=adY (hw:=hw') (o0:=0) (xs:=xs++ys) (cap:=nc) ag5 (by intro j _;simp) (by rw[cE];exact axb) (by simp;omega) (by simp[hw']) (fps:=fps++AW) (by rw[fQ,vm];refine(WI.append GN).mono (λb hb=>?_);have iy:=aqc b hb;exact⟨ao3 b iy,by simp[hw',jf iy]⟩)
   rw[ai]at this
   exact this
  ·exact(Fr.drew _ w).trans (Fr.alloc _ _ _) (λb _ hh=>hh)
  ·intro b hb _;simp[hw',jf hb]
  ·intro b o x ho hx
   have hb:b<w.heap.size:=World.block_lt_of_cell? w _ hx
   exact⟨by simp[hw',jf hb];exact ho,by rw[World.cell?_of_block (a:=⟨b,o,none⟩) (ao3 b hb)];exact hx⟩
  ·refine dN.2 ⟨λhm=>Nat.lt_irrefl _ (aqc _ hm),?_⟩
   rw[eO];exact axv
  ·intro b hb
   rcases bU.1 hb with rfl|hb
   ·exact⟨by simp,.inr (.inr (bc _))⟩
   ·have iy:=aqc b hb
    refine⟨by simp;omega,?_⟩
    rw[eO,aA]at hb
    rcases hb with hb|hb
    ·exact .inl (rP b hb)
    ·exact .inr (.inl hb)
 obtain⟨vv,hvv,ho⟩:=id ja;simp at hvv;subst hvv;rcases ho with⟨⟨ad,rfl⟩,rfl,rfl⟩|⟨b,o0,cap,arr,T,fr,fps,rfl,hb,uR,hs,hc,hh,rfl,hl,ho⟩;have axk:∀w1:World,(Builtin.firstCells e.size ([]:aw e.D).length (.slice ad 0 0)).run P w1=.ok ([]:jJ).toArray w1:=by intro w1;cases ad with|none=>simp[Builtin.firstCells]|some ad=>exact run_firstCells_some (P:=P) w1 e.size 0 ad 0 0 [] (by simp) (λj x hj=>by simp at hj)
 by_cases hm:ys.length=0;have hy:ys=[]:=cr hm;subst hy;refine⟨.slice ad 0 0,w,hw,[],?_,⟨_,rfl,.inl ⟨⟨_,rfl⟩,rfl,rfl⟩⟩,Fr.refl _ _,λ_ _ _=>rfl,λ_ _ _ ho hx=>⟨ho,hx⟩,by simp,by simp⟩;simp only[Builtin.append_];simp only[underlying,Sem.run_bind,run_program,ht,ht',Result.andThen_ok,Sem.run_pure,sizeOf,typeInfo,Ez,wI,List.getElem?_toArray,cM,fW,hlen,bm,cC,bE,cw];simp only[dZ]at WK;have asv:news=[]:=cr (by rw[NL];simp);subst asv;simp[WK];cases ad<;>simp[storeCells];refine grow [] 0 [] (λw1 _=>axk w1) ⟨ad,by simp⟩ (by simp;omega) (ma.nil _ _ _) (by simpa using HZ) (by simp);have WI:=MT hs hc hl ho;have hln:o0+xs.length*e.size<=arr.size:=by rw[hs];exact Nat.add_le_add_left (de _ hc) _
 have hol:((arr.toList.drop o0).take (xs.length*e.size)).length=xs.length*e.size:=WI.1;by_cases akQ:xs.length+ys.length<=cap;have iO:o0+xs.length*e.size+news.length<=arr.size:=by rw[NL,hs,gv,<-dk];exact Nat.add_le_add_left (de _ akQ) _
 have ow:=yD P b (o0+xs.length*e.size) T fr news 0 w arr hb uR (by simpa using iO) GN.oL;simp only[dX]at ow;have fD:(Builtin.append_ #[t,t'] ty #[.slice (some ⟨b,o0,none⟩) xs.length cap,u]).run P w=.ok (.slice (some ⟨b,o0,none⟩) (xs.length+ys.length) cap) (wO w b (fL arr (o0+xs.length*e.size) news) T fr):=by simp only[Builtin.append_];simp only[underlying,Sem.run_bind,run_program,ht,ht',Result.andThen_ok,Sem.run_pure,sizeOf,typeInfo,Ez,wI,List.getElem?_toArray,cM,fW,hlen,bm,cC,bE,cw,akQ,WK,oR,ow]
 have HX:=nU hb;rw[List.cons_append]at HZ;have yJ:b∉fps.flatten++AW.flatten:=(dN.1 HZ).1;let hw':Nat->Nat:=λc=>if c=b then o0+(xs++ys).length*e.size else hw c
 refine⟨_,_,hw',b::(fps++AW).flatten,fD,?_,?_,?_,?_,?_,?_⟩;have vm:((fL arr (o0+xs.length*e.size) news).toList.drop o0).take ((xs++ys).length*e.size)=(arr.toList.drop o0).take (xs.length*e.size)++news:=by
  have h2:((arr.toList.drop o0).take (xs.length*e.size)++news).length=(xs++ys).length*e.size:=by simp only[ai,hol,NL,dk]
  have h3:(xs++ys).length*e.size=xs.length*e.size+news.length:=by rw[ai,dk,NL]
  apply dj;intro j;rw[kE];by_cases hj:j<(xs++ys).length*e.size;rw[aH hj,AD iO];by_cases h1:j<xs.length*e.size;rw[lI,bp (by omega),kE,aH h1];rw[zip,bw (by omega),hol];congr 1;omega;rw[aG hj,bI (by omega)]
 have:=adY (hw:=hw') (w:=wO w b (fL arr (o0+xs.length*e.size) news) T fr) (xs:=xs++ys) (cap:=cap) (fps:=fps++AW) (zB HX) (λj hj=>uR j (by rwa[jD]at hj)) (by rw[jD];exact hs) (by simp;omega) (by simp[hw']) (by
  rw[vm];refine(WI.append GN).mono (λc Cf=>?_);have Eo:c≠b:=by rintro rfl;exact yJ (by rwa[eO]at Cf)
  exact⟨ou Eo,by simp[hw',Eo]⟩)
 rw[ai]at this;exact this;exact⟨rfl,rfl,rfl,by rw[nu];exact bc _,λc _ Cf=>ou (λe=>Cf (by simp[e]))⟩;intro c _ Cf;have Eo:c≠b:=λe=>Cf (by simp[e]);simp[hw',Eo];intro c o x OQ hx;by_cases hcb:c=b;subst hcb;rw[hh]at OQ;refine⟨?_,?_⟩;simp only[hw',cw,ai,dk];omega;rw[qN (zB HX),<-cP,AD iO,lI,cP,<-qN hb];exact hx;exact⟨by simp[hw',hcb];exact OQ,by rw[World.cell?_of_block (a:=⟨c,o,none⟩) (ou hcb)];exact hx⟩;refine dN.2 ⟨by rw[eO];exact yJ,?_⟩;rw[eO];exact(dN.1 HZ).2;intro c Cf;rw[nu];rcases bU.1 Cf with rfl|Cf;exact⟨HX,.inl (by simp)⟩;rw[eO,aA]at Cf;rcases Cf with Cf|Cf;exact⟨hG c (by simp[Cf]),.inl (by simp[Cf])⟩;exact⟨hG c (by simp[Cf]),.inr (.inl Cf)⟩;refine grow ((arr.toList.drop o0).take (xs.length*e.size)) cap fps (λw1 hw1=>?_) ⟨_,rfl⟩ (by omega) WI ?_ (λc Cf=>by simp[Cf]);refine run_firstCells_some (P:=P) w1 e.size xs.length ⟨b,o0,none⟩ xs.length cap _ hol (λj x hj=>?_);have hb1:w1.heap[b]?=some (.cells arr T fr):=by rw[hw1];exact hb
 rw[oR,qN hb1];rw[kE]at hj;split at hj;simpa using hj;cases hj;rw[List.cons_append]at HZ;exact(dN.1 HZ).2
def xd (w:World)(b o n:Nat):jJ:=(List.range n).map λj=>(w.cell? ⟨b,o+j,none⟩).getD undef
theorem afW {S:Nat->Nat->Prop}{u:Value}{ys:aw e.D}(h:ky w S (.sl e) [u] ys)(hf:e.flat=true)(hw:Nat->Nat): ∃news,Src P w e.size u ys.length news/\ma hw w e news ys (List.replicate ys.length []):=by
 obtain⟨v,hv,h⟩:=h;simp at hv;subst hv;rcases h with⟨⟨ad,rfl⟩,rfl⟩|⟨b,o,cap,rfl,hc,h⟩;cases ad with|none=>exact⟨[],⟨λ_=>rfl,λ_ _=>rfl⟩,ma.nil _ _ _⟩|some ad=>exact⟨[],⟨λ_=>rfl,λw1 _=>run_firstCells_some (P:=P) w1 e.size 0 ad 0 0 [] (by simp) (λj x hj=>by simp at hj)⟩,ma.nil _ _ _⟩
 have Ew:∀j,j<ys.length*e.size->∃x,w.cell? ⟨b,o+j,none⟩=some x:=by
  intro j hj;have hi:j/e.size<ys.length:=by rw[Nat.div_lt_iff_lt_mul e.size_pos];exact hj
  obtain⟨cs,Ml,hr⟩:=h (j/e.size) _ (al hi);have hm:j%e.size<cs.length:=by rw[ky.length hr];exact Nat.mod_lt _ e.size_pos
  have:=(Ml (j%e.size) _ (al hm)).2;rw[gv,Nat.mul_comm,Nat.div_add_mod]at this;exact⟨_,this⟩
 have jh:∀j x,(xd w b o (ys.length*e.size))[j]?=some x->w.cell? ⟨b,o+j,none⟩=some x:=by intro j x hx;simp only[xd,List.getElem?_map]at hx;rcases cg j (ys.length*e.size)with hj|hj;rw[List.getElem?_range hj]at hx;obtain⟨y,hy⟩:=Ew j hj;simp[hy]at hx;rw[hy,hx];rw[bI (by simpa using hj)]at hx;cases hx
 have hlen:(xd w b o (ys.length*e.size)).length=ys.length*e.size:=by simp[xd]
 refine⟨xd w b o (ys.length*e.size),⟨λ_=>rfl,λw1 hw1=>?_⟩,⟨hlen,by simp,λi y f hy hf'=>?_⟩⟩;refine run_firstCells_some (P:=P) w1 e.size ys.length ⟨b,o,none⟩ ys.length cap _ hlen (λj x hj=>?_);rw[oR];have:=jh j x hj;simpa[World.cell?,hw1]using this;have hi:i<ys.length:=(ay.1 hy).1;have Dc:f=[]:=by rw[eP,aH hi]at hf';simpa using hf'.symm
 subst Dc;obtain⟨cs,Ml,hr⟩:=h i y hy;have hm:(i+1)*e.size<=ys.length*e.size:=de _ hi;rw[dk,gx]at hm;have e1:((xd w b o (ys.length*e.size)).drop (i*e.size)).take e.size=cs:=by
  apply dj;intro j;rw[kE];have hcl:=ky.length hr;split;rename_i hj;have hjc:j<cs.length:=by omega
  have hx:=(Ml j _ (al hjc)).2;have h2:(xd w b o (ys.length*e.size))[i*e.size+j]?=some cs[j]:=by simp only[xd,List.getElem?_map,List.getElem?_range (show i*e.size+j<ys.length*e.size by omega),dP];rw[<-gv,hx];rfl
  rw[h2,al hjc];rw[bI (by omega)]
 rw[e1];exact Qo hr hf
theorem aom {u:Value}{ys:aw e.D}{fp:fM}(h:gA hw w (.sl e) [u] ys fp): ∃news AW,Src P w e.size u ys.length news/\ma hw w e news ys AW/\(∀b∈AW.flatten,b∈fp)/\(fp.Nodup->AW.flatten.Nodup):=by
 obtain⟨v,hv,h⟩:=h;simp at hv;subst hv;rcases h with⟨⟨ad,rfl⟩,rfl,rfl⟩|⟨b,o0,cap,arr,T,fr,fps,rfl,hb,uR,hs,hc,hh,rfl,hl,ho⟩;refine⟨[],[],⟨λ_=>rfl,λw1 _=>?_⟩,ma.nil _ _ _,by simp,by simp⟩;cases ad with|none=>rfl|some ad=>exact run_firstCells_some (P:=P) w1 e.size 0 ad 0 0 [] (by simp) (λj x hj=>by simp at hj)
 have WI:=MT hs hc hl ho;refine⟨_,fps,⟨λ_=>rfl,λw1 hw1=>?_⟩,WI,λc Cf=>by simp[Cf],λhn=>(dN.1 hn).2⟩;refine run_firstCells_some (P:=P) w1 e.size ys.length ⟨b,o0,none⟩ ys.length cap _ WI.1 (λj x hj=>?_);have hb1:w1.heap[b]?=some (.cells arr T fr):=by rw[hw1];exact hb
 rw[oR,qN hb1];rw[kE]at hj;split at hj;simpa using hj;cases hj
theorem aon (s:aw UInt8)(hw:Nat->Nat):∃news,Src P w (CT.size (.int .u8)) (.string ⟨s.toArray⟩) (dJ s).length news/\ma hw w (.int .u8) news (dJ s) (List.replicate (dJ s).length []):=by
 have hl:(dJ s).length=s.length:=by simp[dJ]
 refine⟨(dJ s).map (Value.int .u8),⟨λw1=>by simp[Builtin.lenOf,zW,hl],λw1 _=>?_⟩,⟨by simp[CT.size],by simp,λi y f hy hf=>?_⟩⟩;have:(ByteArray.mk s.toArray).extract 0 s.length=ByteArray.mk s.toArray:=by rw[extract_mk];simp
 simp[Builtin.firstCells,this,dJ];have hi:i<(dJ s).length:=(ay.1 hy).1;have hf':f=[]:=by rw[eP,aH hi]at hf;simpa using hf.symm
 subst hf';refine⟨?_,rfl⟩;apply dj;intro j;rw[kE];simp only[CT.size,oS];cases j with|zero=>simp[hy]|succ j=>simp
theorem Yy {o:Oper}{s x:Operand}{t t':TypeId}(ho:o.op=.call {callee:=.builtin .append,args:=#[s,x],argTypes:=#[t,t']}){v:Value}{w':World}(h:(Builtin.append_ #[t,t'] o.type #[a.eval s,a.eval x]).run P w=.ok v w'):(execOp a.eval o).run P w=.ok (.value v) w':=by
 have e1:(#[s,x]:Array Operand).map a.eval=#[a.eval s,a.eval x]:=by simp
 simp only[execOp,ho,resolve,e1,Sem.run_bind,Sem.run_pure,Result.andThen_ok,invoke,builtin];show((Builtin.append_ #[t,t'] o.type #[a.eval s,a.eval x]).run P w).andThen _=_;rw[h];rfl
theorem X6 {E:Env}(hE:kG P E.ty){o:Oper}{args:Array Operand}{ts:Array TypeId}(ho:o.op=.call {callee:=.builtin .append,args,argTypes:=ts})(h:qe C st a w){K:AS->aB R}(hk:zD E o ts.toList args.toList st K=some r):ox P C o a w K r:=by
 obtain⟨g,hg⟩:=h;unfold zD at hk;split at hk;rename_i t t' s x vS ib;have ea:args=#[s,x]:=by apply gj;simpa using ib
 have et:ts=#[t,t']:=by apply gj;simpa using vS
 subst ea;subst et;split at hk;rename_i tag e xs st1 WO;obtain⟨g1,hg1⟩:=hg.take s;rw[WO]at hg1;simp only[cv]at hg1;obtain⟨g2,Jw⟩:=hg1.take x
 have fin:∀(u:AV)(st2:AS),st1.take x=(u,st2)->fb C g2 st2 a w [(a.eval s,.val false [.sl (.own tag) e xs]),(a.eval x,u)]->∀(ys:aw e.D)(news:jJ)(AW:aw fM)(fq:fM),
  il (dz C g2 st2 w) (a.eval x) u fq->(∀b∈fq,g2.fE b=some (.hand 1))->E.sl t=some e->∀dt,P.underlying t'=some dt->(∀k,dt≠ .int k)->
  Src P w e.size (a.eval x) ys.length news->ma g2.hw w e news ys AW->(∀b∈AW.flatten,b∈fq)->AW.flatten.Nodup->xs.length+ys.length<=1073741824->
  K (st2.rQ o.dst e (xs++ys))=some r->ox P C o a w K r:=by
  intro u st2 _ Jw ys news AW fq _ hlq hT dt hdt axf KH GN rP HZ II S5
  obtain⟨fp,hrs,axx,akI⟩:=Jw.hands 0 _ _ rfl
  have ja:=(fH hrs).1
  obtain⟨te,hu,he⟩:=Hq hE hT
  have hG:∀b∈fp++AW.flatten,b<w.heap.size:=by intro b hb;rcases aA.1 hb with hb|hb;exact(Jw.im b _ (akI b hb)).1;exact(Jw.im b _ (hlq b (rP b hb))).1
  have axt:(fp++AW.flatten).Nodup:=by refine aS.2 ⟨axx,HZ,?_⟩;rintro b hb c hc rfl;have h1:=akI b hb;rw[hlq b (rP b hc)]at h1;cases h1
  obtain⟨v',w',hw',lO,fD,KE,jZ,HY,KF,WM,Mm⟩:=abG (ty:=o.type) hu he hdt axf ja KH GN hG axt II
  refine⟨v',w',_,.inl (Yy ho fD),?_,S5⟩
  refine Jw.RM o.dst (hw':=hw') (fp:=lO) ⟨jZ.os,jZ.tape,jZ.output,jZ.size,λb hb hh=>jZ.block b hb (λhm=>hh (by rw[akI b hm];rfl))⟩ ?_ KF KE WM ?_
  ·intro b y hb hh
   refine HY b (Jw.im b y hb).1 (λhm=>hh ?_)
   rw[<-hb,akI b hm];rfl
  ·intro b hb
   obtain⟨h1,h2⟩:=Mm b hb
   refine⟨h1,?_⟩
   rcases h2 with h2|h2|h2
   ·exact .inl (by rw[akI b h2];rfl)
   ·exact .inl (by rw[hlq b (rP b h2)];rfl)
   ·exact .inr h2
 split at hk;rename_i fl e' ys st2 KI;split at hk;rename_i hee;subst hee;split at hk;rename_i hc;obtain⟨hT,hT',hgv⟩:=hc;unfold room at hk;split at hk;rename_i II;rw[KI]at Jw;have ac1:fb C g2 st2 a w [(a.eval s,.val false [.sl (.own tag) e' xs]),(a.eval x,.val false [.sl fl e' ys])]:=Jw;obtain⟨fq,hrx,hnq,hlq⟩:=ac1.hands 1 _ _ rfl;obtain⟨te',WQ,_⟩:=Hq hE hT';have AY:st2.ep=st.ep:=by have h1:= @XP st s;have h2:= @XP st1 x;rw[WO]at h1;rw[KI]at h2;exact h2.trans h1
 have hcx:=fH hrx;cases fl with
 |nest _ _ _ _ _ _=>simp[sO.ov]at hgv
 |part _ _ _ _=>simp[sO.ov]at hgv
 |gB _ _ _=>simp[sO.ov]at hgv
 |own tg=>obtain⟨news,AW,KH,GN,rP,HZ⟩:=aom (P:=P) hcx.1;exact fin _ st2 KI ac1 ys news AW fq hrx hlq hT _ WQ (by simp) KH GN rP (HZ hnq) II hk
 |arg _=>obtain⟨news,KH,GN⟩:=afW (P:=P) hcx.2 (by simpa[sO.ov]using hgv) g2.hw;exact fin _ st2 KI ac1 ys news _ fq hrx hlq hT _ WQ (by simp) KH GN (by simp) (by simp) II hk
 |loc ep pv=>
  simp only[sO.ov,ae,bn]at hgv;have axi:ep=(dz C g2 st2 w).ep:=by show ep=st2.ep;rw[AY];exact hgv.1
  obtain⟨news,KH,GN⟩:=afW (P:=P) (hcx.2.2.2.1 axi) hgv.2 g2.hw;exact fin _ st2 KI ac1 ys news _ fq hrx hlq hT _ WQ (by simp) KH GN (by simp) (by simp) II hk
 cases hk;cases hk;cases hk;rename_i s0 st2 KI;split at hk;rename_i hee;subst hee;split at hk;rename_i hc;obtain⟨hT,hT'⟩:=hc;unfold room at hk;split at hk;rename_i II;rw[KI]at Jw;have ac1:fb C g2 st2 a w [(a.eval s,.val false [.sl (.own tag) (.int .u8) xs]),(a.eval x,.val false [.str s0])]:=Jw;obtain⟨fq,hrx,hnq,hlq⟩:=ac1.hands 1 _ _ rfl;have hcx:=fH hrx;obtain⟨news,KH,GN⟩:=aon (P:=P) (w:=w) s0 g2.hw;rw[<-hcx.1]at KH;have hl:(dJ s0).length=s0.length:=by simp[dJ]
 exact fin _ st2 KI ac1 (dJ s0) news _ fq hrx hlq hT _ (XK hE hT') (by simp) KH GN (by simp) (by simp) (by rw[hl];exact II) hk;cases hk;cases hk;cases hk;cases hk;cases hk;cases hk
end Go.Dn
