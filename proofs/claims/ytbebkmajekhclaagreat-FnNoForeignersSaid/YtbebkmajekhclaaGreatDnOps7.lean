import Derived.Test.YtbebkmajekhclaaGreatDnOps6
/- Part 7: append. -/
namespace Go.Dn
open Go.RowKit
variable {P:Program} {C:Ctx} {st:AS} {a:Act} {w:World} {R:Type} {r:R}
variable {e:CT} {hw:Nat->Nat}
structure Src (P:Program) (w:World) (size:Nat) (u:Value) (m:Nat) (news:List Value):Prop where
 len:∀w1:World,(Builtin.lenOf u).run P w1=.ok m w1
 first:∀w1:World,w1.heap=w.heap->(Builtin.firstCells size m u).run P w1=.ok news.toArray w1
theorem aaf {t t' ty te:TypeId}(ht:P.underlying t=some (.slice te))(he:OE P te e){dt:TypeDesc}(ht':P.underlying t'=some dt)(hdt:∀k,dt≠ .int k){v u:Value}{xs ys:ax e.D}{fp:fK}{news:jt}{Av:ax fK}(iz:fZ hw w (.sl e) [v] xs fp)(J0:Src P w e.size u ys.length news)(Gj:lH hw w e news ys Av)(gH:∀b∈fp++Av.flatten,b<w.heap.size)(Hs:(fp++Av.flatten).Nodup)(H5:xs.length+ys.length<=1073741824): ∃v' w' hw' lx,(Builtin.append_ #[t,t'] ty #[v,u]).run P w=.ok v' w'/\fZ hw' w' (.sl e) [v'] (xs++ys) lx/\Fr (λb=>b∈fp) w w'/\(∀b,b<w.heap.size->b∉fp->hw' b=hw b)/\ (∀b o x,o<hw b->w.cell? ⟨b,o,none⟩=some x->o<hw' b/\w'.cell? ⟨b,o,none⟩=some x)/\lx.Nodup/\∀b∈lx,b<w'.heap.size/\(b∈fp\/b∈Av.flatten\/w.heap.size<=b):=by
 obtain⟨⟨inf,z,D6,vZ,hby,hz,hzc⟩,_⟩:=he;have hzs:z.cells.size=e.size:=by rw[<-qW e,<-hzc];simp
 have afx:=e.size_pos;have hnz:(match dt with| .int _=>true|_=>false)=false:=by cases dt<;>simp;exact absurd rfl (hdt _)
 have Vj:=J0.first w rfl
 have alR:=J0.first w.drew rfl
 have hlen:=J0.len;have MW:=Gj.1;have h63:¬((xs.length+ys.length:Nat):Int)>IntKind.i64.max:=by
  have:IntKind.i64.max=9223372036854775807:=by decide
  omega
 have grow:∀(VR:jt)(QL:Nat)(fps:ax fK),(∀w1:World,w1.heap=w.heap->(Builtin.firstCells e.size xs.length v).run P w1=.ok VR.toArray w1)->(∃base,v=.slice base xs.length QL)->QL<xs.length+ys.length->
  lH hw w e VR xs fps->(fps.flatten++Av.flatten).Nodup->(∀b∈fps.flatten,b∈fp)->
  ∃v' w' hw' lx,(Builtin.append_ #[t,t'] ty #[v,u]).run P w=.ok v' w'/\fZ hw' w' (.sl e) [v'] (xs++ys) lx/\Fr (λb=>b∈fp) w w'/\(∀b,b<w.heap.size->b∉fp->hw' b=hw b)/\
  (∀b o x,o<hw b->w.cell? ⟨b,o,none⟩=some x->o<hw' b/\w'.cell? ⟨b,o,none⟩=some x)/\lx.Nodup/\∀b∈lx,b<w'.heap.size/\(b∈fp\/b∈Av.flatten\/w.heap.size<=b):=by
  intro VR QL fps hold aql JU Vh avI rm
  obtain⟨base,rfl⟩:=aql
  have aqG:=hold w.drew rfl
  have iw:Builtin.nextslicecap (xs.length+ys.length) QL*inf.bytes<=281474976710656:=by refine growslice_fits JU ?_;have:(xs.length+ys.length)*inf.bytes<=1073741824*65536:=Nat.mul_le_mul H5 hby;omega
  have fg:(Builtin.append_ #[t,t'] ty #[.slice base xs.length QL,u]).run P w=
   .ok (.slice (some ⟨w.heap.size,0,none⟩) (xs.length+ys.length) (grownCap w (xs.length+ys.length) QL te))
    (w.drew.alloc (.cells (VR.toArray++news.toArray++Builtin.zeroCells z.cells (grownCap w (xs.length+ys.length) QL te-(xs.length+ys.length))) te)):=by
   have h1:¬(xs.length+ys.length<=QL):=by omega
   have h2:¬(281474976710656<Builtin.nextslicecap (xs.length+ys.length) QL*inf.bytes):=by omega
   simp only[Builtin.append_]
   simp only[underlying,Sem.run_bind,run_program,ht,ht',Result.andThen_ok,Sem.run_pure,sizeOf,typeInfo,D6,vZ,List.getElem?_toArray,cD,eT,hlen,aN,bm,cw,
    h1,h63,false_and,ch,zeroValue,newRow]
   rw[aG (by simpa using h2)]
   simp only[Sem.run_bind,run_choose,Question.forced,bm,cw,Result.andThen_ok,run_program,D6,run_askRoom,Sem.run_pure]
   have e1:=aqG
   have e2:=alR
   simp only[World.drew]at e1 e2
   simp only[e1,e2,Result.andThen_ok,hz,Sem.run_pure,run_newObj]
   rfl
  have Cg:=grownCap_ge w (xs.length+ys.length) QL te
  generalize grownCap w (xs.length+ys.length) QL te=nc at fg Cg
  have avT:(Builtin.zeroCells z.cells (nc-(xs.length+ys.length))).size=(nc-(xs.length+ys.length))*e.size:=by rw[size_zeroCells,hzs]
  let jL:Array Value:=VR.toArray++news.toArray++Builtin.zeroCells z.cells (nc-(xs.length+ys.length))
  have hlo:=Vh.1
  have avo:jL.size=nc*e.size:=by show(VR.toArray++news.toArray++Builtin.zeroCells z.cells (nc-(xs.length+ys.length))).size=_;rw[Array.size_append,Array.size_append,avT];simp only[List.size_toArray,hlo,MW,<-cU];congr 1;omega
  let hw':Nat->Nat:=λb=>if b=w.heap.size then(xs++ys).length*e.size else hw b
  have afw:(w.drew.alloc (.cells jL te)).heap[w.heap.size]?=some (.cells jL te (0,0)):=heap_alloc_new w.drew _
  have ang:∀b,b<w.heap.size->(w.drew.alloc (.cells jL te)).heap[b]?=w.heap[b]?:=λb hb=>heap_alloc_old w.drew _ b hb
  have uH:jL.toList.take ((xs++ys).length*e.size)=VR++news:=by
   show(VR.toArray++news.toArray++Builtin.zeroCells z.cells (nc-(xs.length+ys.length))).toList.take _=_;rw[Array.toList_append,Array.toList_append];have:(VR++news).length=(xs++ys).length*e.size:=by simp only[ai,hlo,MW,cU]
   rw[<-this];exact List.take_left
  have aom:∀b∈(fps++Av).flatten,b<w.heap.size:=by intro b hb;rw[eR,ay]at hb;exact gH b (by rcases hb with hb|hb;exact bK _ (rm b hb);exact bw _ hb)
  refine⟨_,_,hw',w.heap.size::(fps++Av).flatten,fg,?_,?_,?_,?_,?_,?_⟩
  ·have:=acy (hw:=hw') (o0:=0) (xs:=xs++ys) (cap:=nc) afw (by intro j _;simp) (by rw[cy];exact avo) (by simp;omega) (by simp[hw']) (fps:=fps++Av) (by rw[eL,uH];refine(Vh.append Gj).mono (λb hb=>?_);have iI:=aom b hb;exact⟨ang b iI,by simp[hw',iP iI]⟩)
   rw[ai]at this
   exact this
  ·exact(Fr.drew _ w).trans (Fr.alloc _ _ _) (λb _ hh=>hh)
  ·intro b hb _;simp[hw',iP hb]
  ·intro b o x ho hx
   have hb:b<w.heap.size:=World.block_lt_of_cell? w _ hx
   exact⟨by simp[hw',iP hb];exact ho,by rw[World.cell?_of_block (a:=⟨b,o,none⟩) (ang b hb)];exact hx⟩
  ·refine dG.2 ⟨λhm=>Nat.lt_irrefl _ (aom _ hm),?_⟩
   rw[eR];exact avI
  ·intro b hb
   rcases bS.1 hb with rfl|hb
   ·exact⟨by simp,.inr (.inr (bj _))⟩
   ·have iI:=aom b hb
    refine⟨by simp;omega,?_⟩
    rw[eR,ay]at hb
    rcases hb with hb|hb
    ·exact .inl (rm b hb)
    ·exact .inr (.inl hb)
 obtain⟨vv,hvv,ho⟩:=id iz;simp at hvv;subst hvv;rcases ho with⟨⟨ad,rfl⟩,rfl,rfl⟩|⟨b,o0,cap,arr,T,fr,fps,rfl,hb,uv,hs,hc,hh,rfl,hl,ho⟩;have avx:∀w1:World,(Builtin.firstCells e.size ([]:ax e.D).length (.slice ad 0 0)).run P w1=.ok ([]:jt).toArray w1:=by intro w1;cases ad with|none=>simp[Builtin.firstCells]|some ad=>exact run_firstCells_some (P:=P) w1 e.size 0 ad 0 0 [] (by simp) (λj x hj=>by simp at hj)
 by_cases hm:ys.length=0;have hy:ys=[]:=cq hm;subst hy;refine⟨.slice ad 0 0,w,hw,[],?_,⟨_,rfl,.inl ⟨⟨_,rfl⟩,rfl,rfl⟩⟩,Fr.refl _ _,λ_ _ _=>rfl,λ_ _ _ ho hx=>⟨ho,hx⟩,by simp,by simp⟩;simp only[Builtin.append_];simp only[underlying,Sem.run_bind,run_program,ht,ht',Result.andThen_ok,Sem.run_pure,sizeOf,typeInfo,D6,vZ,List.getElem?_toArray,cD,eT,hlen,bm,cw,bt,ch];simp only[dg]at Vj;have aqD:news=[]:=cq (by rw[MW];simp);subst aqD;simp[Vj];cases ad<;>simp[storeCells];refine grow [] 0 [] (λw1 _=>avx w1) ⟨ad,by simp⟩ (by simp;omega) (lH.nil _ _ _) (by simpa using Hs) (by simp);have Vh:=L6 hs hc hl ho;have hln:o0+xs.length*e.size<=arr.size:=by rw[hs];exact Nat.add_le_add_left (cK _ hc) _
 have hol:((arr.toList.drop o0).take (xs.length*e.size)).length=xs.length*e.size:=Vh.1;by_cases ajf:xs.length+ys.length<=cap;have iw:o0+xs.length*e.size+news.length<=arr.size:=by rw[MW,hs,gy,<-cU];exact Nat.add_le_add_left (cK _ ajf) _
 have nY:=ye P b (o0+xs.length*e.size) T fr news 0 w arr hb uv (by simpa using iw) Gj.oy;simp only[eP]at nY;have fg:(Builtin.append_ #[t,t'] ty #[.slice (some ⟨b,o0,none⟩) xs.length cap,u]).run P w=.ok (.slice (some ⟨b,o0,none⟩) (xs.length+ys.length) cap) (wi w b (fA arr (o0+xs.length*e.size) news) T fr):=by simp only[Builtin.append_];simp only[underlying,Sem.run_bind,run_program,ht,ht',Result.andThen_ok,Sem.run_pure,sizeOf,typeInfo,D6,vZ,List.getElem?_toArray,cD,eT,hlen,bm,cw,bt,ch,ajf,Vj,oF,nY]
 have Hq:=nz hb;rw[List.cons_append]at Hs;have yn:b∉fps.flatten++Av.flatten:=(dG.1 Hs).1;let hw':Nat->Nat:=λc=>if c=b then o0+(xs++ys).length*e.size else hw c
 refine⟨_,_,hw',b::(fps++Av).flatten,fg,?_,?_,?_,?_,?_,?_⟩;have uH:((fA arr (o0+xs.length*e.size) news).toList.drop o0).take ((xs++ys).length*e.size)=(arr.toList.drop o0).take (xs.length*e.size)++news:=by
  have h2:((arr.toList.drop o0).take (xs.length*e.size)++news).length=(xs++ys).length*e.size:=by simp only[ai,hol,MW,cU]
  have h3:(xs++ys).length*e.size=xs.length*e.size+news.length:=by rw[ai,cU,MW]
  apply cS;intro j;rw[kl];by_cases hj:j<(xs++ys).length*e.size;rw[aI hj,Aj iw];by_cases h1:j<xs.length*e.size;rw[nU,bF (by omega),kl,aI h1];rw[zip,bA (by omega),hol];congr 1;omega;rw[aG hj,bI (by omega)]
 have:=acy (hw:=hw') (w:=wi w b (fA arr (o0+xs.length*e.size) news) T fr) (xs:=xs++ys) (cap:=cap) (fps:=fps++Av) (yQ Hq) (λj hj=>uv j (by rwa[jn]at hj)) (by rw[jn];exact hs) (by simp;omega) (by simp[hw']) (by
  rw[uH];refine(Vh.append Gj).mono (λc CJ=>?_);have D9:c≠b:=by rintro rfl;exact yn (by rwa[eR]at CJ)
  exact⟨nT D9,by simp[hw',D9]⟩)
 rw[ai]at this;exact this;exact⟨rfl,rfl,rfl,by rw[mV];exact bj _,λc _ CJ=>nT (λe=>CJ (by simp[e]))⟩;intro c _ CJ;have D9:c≠b:=λe=>CJ (by simp[e]);simp[hw',D9];intro c o x NY hx;by_cases hcb:c=b;subst hcb;rw[hh]at NY;refine⟨?_,?_⟩;simp only[hw',ch,ai,cU];omega;rw[qv (yQ Hq),<-cG,Aj iw,nU,cG,<-qv hb];exact hx;exact⟨by simp[hw',hcb];exact NY,by rw[World.cell?_of_block (a:=⟨c,o,none⟩) (nT hcb)];exact hx⟩;refine dG.2 ⟨by rw[eR];exact yn,?_⟩;rw[eR];exact(dG.1 Hs).2;intro c CJ;rw[mV];rcases bS.1 CJ with rfl|CJ;exact⟨Hq,.inl (by simp)⟩;rw[eR,ay]at CJ;rcases CJ with CJ|CJ;exact⟨gH c (by simp[CJ]),.inl (by simp[CJ])⟩;exact⟨gH c (by simp[CJ]),.inr (.inl CJ)⟩;refine grow ((arr.toList.drop o0).take (xs.length*e.size)) cap fps (λw1 hw1=>?_) ⟨_,rfl⟩ (by omega) Vh ?_ (λc CJ=>by simp[CJ]);refine run_firstCells_some (P:=P) w1 e.size xs.length ⟨b,o0,none⟩ xs.length cap _ hol (λj x hj=>?_);have hb1:w1.heap[b]?=some (.cells arr T fr):=by rw[hw1];exact hb
 rw[oF,qv hb1];rw[kl]at hj;split at hj;simpa using hj;cases hj;rw[List.cons_append]at Hs;exact(dG.1 Hs).2
def wE (w:World)(b o n:Nat):jt:=(List.range n).map λj=>(w.cell? ⟨b,o+j,none⟩).getD undef
theorem aew {S:Nat->Nat->Prop}{u:Value}{ys:ax e.D}(h:jX w S (.sl e) [u] ys)(hf:e.flat=true)(hw:Nat->Nat): ∃news,Src P w e.size u ys.length news/\lH hw w e news ys (List.replicate ys.length []):=by
 obtain⟨v,hv,h⟩:=h;simp at hv;subst hv;rcases h with⟨⟨ad,rfl⟩,rfl⟩|⟨b,o,cap,rfl,hc,h⟩;cases ad with|none=>exact⟨[],⟨λ_=>rfl,λ_ _=>rfl⟩,lH.nil _ _ _⟩|some ad=>exact⟨[],⟨λ_=>rfl,λw1 _=>run_firstCells_some (P:=P) w1 e.size 0 ad 0 0 [] (by simp) (λj x hj=>by simp at hj)⟩,lH.nil _ _ _⟩
 have D3:∀j,j<ys.length*e.size->∃x,w.cell? ⟨b,o+j,none⟩=some x:=by
  intro j hj;have hi:j/e.size<ys.length:=by rw[Nat.div_lt_iff_lt_mul e.size_pos];exact hj
  obtain⟨cs,Lz,hr⟩:=h (j/e.size) _ (al hi);have hm:j%e.size<cs.length:=by rw[jX.length hr];exact Nat.mod_lt _ e.size_pos
  have:=(Lz (j%e.size) _ (al hm)).2;rw[gy,Nat.mul_comm,Nat.div_add_mod]at this;exact⟨_,this⟩
 have iR:∀j x,(wE w b o (ys.length*e.size))[j]?=some x->w.cell? ⟨b,o+j,none⟩=some x:=by intro j x hx;simp only[wE,eU]at hx;rcases cr j (ys.length*e.size)with hj|hj;rw[List.getElem?_range hj]at hx;obtain⟨y,hy⟩:=D3 j hj;simp[hy]at hx;rw[hy,hx];rw[bI (by simpa using hj)]at hx;cases hx
 have hlen:(wE w b o (ys.length*e.size)).length=ys.length*e.size:=by simp[wE]
 refine⟨wE w b o (ys.length*e.size),⟨λ_=>rfl,λw1 hw1=>?_⟩,⟨hlen,by simp,λi y f hy hf'=>?_⟩⟩;refine run_firstCells_some (P:=P) w1 e.size ys.length ⟨b,o,none⟩ ys.length cap _ hlen (λj x hj=>?_);rw[oF];have:=iR j x hj;simpa[World.cell?,hw1]using this;have hi:i<ys.length:=(aA.1 hy).1;have CN:f=[]:=by rw[eV,aI hi]at hf';simpa using hf'.symm
 subst CN;obtain⟨cs,Lz,hr⟩:=h i y hy;have hm:(i+1)*e.size<=ys.length*e.size:=cK _ hi;rw[cU,fX]at hm;have e1:((wE w b o (ys.length*e.size)).drop (i*e.size)).take e.size=cs:=by
  apply cS;intro j;rw[kl];have hcl:=jX.length hr;split;rename_i hj;have hjc:j<cs.length:=by omega
  have hx:=(Lz j _ (al hjc)).2;have h2:(wE w b o (ys.length*e.size))[i*e.size+j]?=some cs[j]:=by simp only[wE,eU,List.getElem?_range (show i*e.size+j<ys.length*e.size by omega),dH];rw[<-gy,hx];rfl
  rw[h2,al hjc];rw[bI (by omega)]
 rw[e1];exact Ps hr hf
theorem amA {u:Value}{ys:ax e.D}{fp:fK}(h:fZ hw w (.sl e) [u] ys fp): ∃news Av,Src P w e.size u ys.length news/\lH hw w e news ys Av/\(∀b∈Av.flatten,b∈fp)/\(fp.Nodup->Av.flatten.Nodup):=by
 obtain⟨v,hv,h⟩:=h;simp at hv;subst hv;rcases h with⟨⟨ad,rfl⟩,rfl,rfl⟩|⟨b,o0,cap,arr,T,fr,fps,rfl,hb,uv,hs,hc,hh,rfl,hl,ho⟩;refine⟨[],[],⟨λ_=>rfl,λw1 _=>?_⟩,lH.nil _ _ _,by simp,by simp⟩;cases ad with|none=>rfl|some ad=>exact run_firstCells_some (P:=P) w1 e.size 0 ad 0 0 [] (by simp) (λj x hj=>by simp at hj)
 have Vh:=L6 hs hc hl ho;refine⟨_,fps,⟨λ_=>rfl,λw1 hw1=>?_⟩,Vh,λc CJ=>by simp[CJ],λhn=>(dG.1 hn).2⟩;refine run_firstCells_some (P:=P) w1 e.size ys.length ⟨b,o0,none⟩ ys.length cap _ Vh.1 (λj x hj=>?_);have hb1:w1.heap[b]?=some (.cells arr T fr):=by rw[hw1];exact hb
 rw[oF,qv hb1];rw[kl]at hj;split at hj;simpa using hj;cases hj
theorem amB (s:ax UInt8)(hw:Nat->Nat):∃news,Src P w (CT.size (.int .u8)) (.string ⟨s.toArray⟩) (dy s).length news/\lH hw w (.int .u8) news (dy s) (List.replicate (dy s).length []):=by
 have hl:(dy s).length=s.length:=by simp[dy]
 refine⟨(dy s).map (Value.int .u8),⟨λw1=>by simp[Builtin.lenOf,zB,hl],λw1 _=>?_⟩,⟨by simp[CT.size],by simp,λi y f hy hf=>?_⟩⟩;have:(ByteArray.mk s.toArray).extract 0 s.length=ByteArray.mk s.toArray:=by rw[extract_mk];simp
 simp[Builtin.firstCells,this,dy];have hi:i<(dy s).length:=(aA.1 hy).1;have hf':f=[]:=by rw[eV,aI hi]at hf;simpa using hf.symm
 subst hf';refine⟨?_,rfl⟩;apply cS;intro j;rw[kl];simp only[CT.size,oG];cases j with|zero=>simp[hy]|succ j=>simp
theorem W9 {o:Oper}{s x:Operand}{t t':TypeId}(ho:o.op=.call {callee:=.builtin .append,args:=#[s,x],argTypes:=#[t,t']}){v:Value}{w':World}(h:(Builtin.append_ #[t,t'] o.type #[a.eval s,a.eval x]).run P w=.ok v w'):(execOp a.eval o).run P w=.ok (.value v) w':=by
 have e1:(#[s,x]:Array Operand).map a.eval=#[a.eval s,a.eval x]:=by simp
 simp only[execOp,ho,resolve,e1,Sem.run_bind,Sem.run_pure,Result.andThen_ok,invoke,builtin];show((Builtin.append_ #[t,t'] o.type #[a.eval s,a.eval x]).run P w).andThen _=_;rw[h];rfl
theorem WG {E:Env}(hE:kq P E.ty){o:Oper}{args:Array Operand}{ts:Array TypeId}(ho:o.op=.call {callee:=.builtin .append,args,argTypes:=ts})(h:pL C st a w){K:AS->az R}(hk:yS E o ts.toList args.toList st K=some r):oa P C o a w K r:=by
 obtain⟨g,hg⟩:=h;unfold yS at hk;split at hk;rename_i t t' s x vr gP;have ea:args=#[s,x]:=by apply fR;simpa using gP
 have et:ts=#[t,t']:=by apply fR;simpa using vr
 subst ea;subst et;split at hk;rename_i tag e xs st1 Vo;obtain⟨g1,hg1⟩:=hg.take s;rw[Vo]at hg1;simp only[cd]at hg1;obtain⟨g2,IU⟩:=hg1.take x
 have fin:∀(u:AV)(st2:AS),st1.take x=(u,st2)->eJ C g2 st2 a w [(a.eval s,.val false [.sl (.own tag) e xs]),(a.eval x,u)]->∀(ys:ax e.D)(news:jt)(Av:ax fK)(fq:fK),
  gU (df C g2 st2 w) (a.eval x) u fq->(∀b∈fq,g2.ft b=some (.hand 1))->E.sl t=some e->∀dt,P.underlying t'=some dt->(∀k,dt≠ .int k)->
  Src P w e.size (a.eval x) ys.length news->lH g2.hw w e news ys Av->(∀b∈Av.flatten,b∈fq)->Av.flatten.Nodup->xs.length+ys.length<=1073741824->
  K (st2.rn o.dst e (xs++ys))=some r->oa P C o a w K r:=by
  intro u st2 _ IU ys news Av fq _ hlq hT dt hdt avs J0 Gj rm Hs H5 Vl
  obtain⟨fp,hrs,avK,ai7⟩:=IU.hands 0 _ _ rfl
  have iz:=(fw hrs).1
  obtain⟨te,hu,he⟩:=GP hE hT
  have gH:∀b∈fp++Av.flatten,b<w.heap.size:=by intro b hb;rcases ay.1 hb with hb|hb;exact(IU.gW b _ (ai7 b hb)).1;exact(IU.gW b _ (hlq b (rm b hb))).1
  have avG:(fp++Av.flatten).Nodup:=by refine aQ.2 ⟨avK,Hs,?_⟩;rintro b hb c hc rfl;have h1:=ai7 b hb;rw[hlq b (rm b hc)]at h1;cases h1
  obtain⟨v',w',hw',lx,fg,JX,kb,Hr,JY,Vm,LA⟩:=aaf (ty:=o.type) hu he hdt avs iz J0 Gj gH avG H5
  refine⟨v',w',_,.inl (W9 ho fg),?_,Vl⟩
  refine IU.QF o.dst (hw':=hw') (fp:=lx) ⟨kb.os,kb.tape,kb.output,kb.size,λb hb hh=>kb.block b hb (λhm=>hh (by rw[ai7 b hm];rfl))⟩ ?_ JY JX Vm ?_
  ·intro b y hb hh
   refine Hr b (IU.gW b y hb).1 (λhm=>hh ?_)
   rw[<-hb,ai7 b hm];rfl
  ·intro b hb
   obtain⟨h1,h2⟩:=LA b hb
   refine⟨h1,?_⟩
   rcases h2 with h2|h2|h2
   ·exact .inl (by rw[ai7 b h2];rfl)
   ·exact .inl (by rw[hlq b (rm b h2)];rfl)
   ·exact .inr h2
 split at hk;rename_i fl e' ys st2 J1;split at hk;rename_i hee;subst hee;split at hk;rename_i hc;obtain⟨hT,hT',hgv⟩:=hc;unfold room at hk;split at hk;rename_i H5;rw[J1]at IU;have abz:eJ C g2 st2 a w [(a.eval s,.val false [.sl (.own tag) e' xs]),(a.eval x,.val false [.sl fl e' ys])]:=IU;obtain⟨fq,hrx,hnq,hlq⟩:=abz.hands 1 _ _ rfl;obtain⟨te',Vp,_⟩:=GP hE hT';have Aw:st2.ep=st.ep:=by have h1:= @Wn st s;have h2:= @Wn st1 x;rw[Vo]at h1;rw[J1]at h2;exact h2.trans h1
 have hcx:=fw hrx;cases fl with
 |nest _ _ _ _ _ _=>simp[sj.sy]at hgv
 |part _ _ _ _=>simp[sj.sy]at hgv
 |ga _ _ _=>simp[sj.sy]at hgv
 |own tg=>obtain⟨news,Av,J0,Gj,rm,Hs⟩:=amA (P:=P) hcx.1;exact fin _ st2 J1 abz ys news Av fq hrx hlq hT _ Vp (by simp) J0 Gj rm (Hs hnq) H5 hk
 |arg _=>obtain⟨news,J0,Gj⟩:=aew (P:=P) hcx.2 (by simpa[sj.sy]using hgv) g2.hw;exact fin _ st2 J1 abz ys news _ fq hrx hlq hT _ Vp (by simp) J0 Gj (by simp) (by simp) H5 hk
 |loc ep pv=>
  simp only[sj.sy,ae,bg]at hgv;have avv:ep=(df C g2 st2 w).ep:=by show ep=st2.ep;rw[Aw];exact hgv.1
  obtain⟨news,J0,Gj⟩:=aew (P:=P) (hcx.2.2.2.1 avv) hgv.2 g2.hw;exact fin _ st2 J1 abz ys news _ fq hrx hlq hT _ Vp (by simp) J0 Gj (by simp) (by simp) H5 hk
 cases hk;cases hk;cases hk;rename_i s0 st2 J1;split at hk;rename_i hee;subst hee;split at hk;rename_i hc;obtain⟨hT,hT'⟩:=hc;unfold room at hk;split at hk;rename_i H5;rw[J1]at IU;have abz:eJ C g2 st2 a w [(a.eval s,.val false [.sl (.own tag) (.int .u8) xs]),(a.eval x,.val false [.str s0])]:=IU;obtain⟨fq,hrx,hnq,hlq⟩:=abz.hands 1 _ _ rfl;have hcx:=fw hrx;obtain⟨news,J0,Gj⟩:=amB (P:=P) (w:=w) s0 g2.hw;rw[<-hcx.1]at J0;have hl:(dy s0).length=s0.length:=by simp[dy]
 exact fin _ st2 J1 abz (dy s0) news _ fq hrx hlq hT _ (Wh hE hT') (by simp) J0 Gj (by simp) (by simp) (by rw[hl];exact H5) hk;cases hk;cases hk;cases hk;cases hk;cases hk;cases hk
end Go.Dn
