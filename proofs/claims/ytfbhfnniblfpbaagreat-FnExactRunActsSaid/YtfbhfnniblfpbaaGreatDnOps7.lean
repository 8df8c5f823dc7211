import Derived.Test.YtfbhfnniblfpbaaGreatDnOps6
/- Part 7: append. -/
namespace Go.Dn
open Go.RowKit
variable {P:Program} {C:Ctx} {st:AS} {a:Act} {w:World} {R:Type} {r:R}
variable {e:CT} {hw:Nat->Nat}
structure Src (P:Program) (w:World) (size:Nat) (u:Value) (m:Nat) (news:List Value):Prop where
 len:∀w1:World,(Builtin.lenOf u).run P w1=.ok m w1
 first:∀w1:World,w1.heap=w.heap->(Builtin.firstCells size m u).run P w1=.ok news.toArray w1
theorem XP {t t' ty te:TypeId}(ht:P.underlying t=some (.slice te))(he:NY P te e){dt:TypeDesc}(UK:P.underlying t'=some dt)(hdt:∀k,dt≠ .int k){v u:Value}{xs ys:aq e.D}{fp:dX}{news:ie}{Ax:aq dX}(eR:ez hw w (.sl e) [v] xs fp)(Kg:Src P w e.size u ys.length news)(G8:kI hw w e news ys Ax)(gV:∀b∈fp++Ax.flatten,b<w.heap.size)(E3:(fp++Ax.flatten).Nodup)(IL:xs.length+ys.length<=1073741824): ∃v' w' hw' iw,(Builtin.append_ #[t,t'] ty #[v,u]).run P w=.ok v' w'/\ez hw' w' (.sl e) [v'] (xs++ys) iw/\Fr (λb=>b∈fp) w w'/\(∀b,b<w.heap.size->b∉fp->hw' b=hw b)/\ (∀b o x,o<hw b->w.cell? ⟨b,o,none⟩=some x->o<hw' b/\w'.cell? ⟨b,o,none⟩=some x)/\iw.Nodup/\∀b∈iw,b<w'.heap.size/\(b∈fp\/b∈Ax.flatten\/w.heap.size<=b):=by
 obtain⟨⟨inf,z,Em,tw,hby,hz,hzc⟩,_⟩:=he;have hzs:z.cells.size=e.size:=by rw[<-pJ e,<-hzc];simp
 have abC:=e.size_pos;have hnz:(match dt with| .int _=>true|_=>false)=false:=by cases dt<;>simp;exact absurd rfl (hdt _)
 have OO:=Kg.first w rfl
 have agA:=Kg.first w.drew rfl
 have hlen:=Kg.len;have JS:=G8.1;have h63:¬((xs.length+ys.length:Nat):Int)>IntKind.i64.max:=by
  have:IntKind.i64.max=9223372036854775807:=by decide
  omega
 have grow:∀(TZ:ie)(PG:Nat)(fps:aq dX),(∀w1:World,w1.heap=w.heap->(Builtin.firstCells e.size xs.length v).run P w1=.ok TZ.toArray w1)->(∃base,v=.slice base xs.length PG)->PG<xs.length+ys.length->
  kI hw w e TZ xs fps->(fps.flatten++Ax.flatten).Nodup->(∀b∈fps.flatten,b∈fp)->
  ∃v' w' hw' iw,(Builtin.append_ #[t,t'] ty #[v,u]).run P w=.ok v' w'/\ez hw' w' (.sl e) [v'] (xs++ys) iw/\Fr (λb=>b∈fp) w w'/\(∀b,b<w.heap.size->b∉fp->hw' b=hw b)/\
  (∀b o x,o<hw b->w.cell? ⟨b,o,none⟩=some x->o<hw' b/\w'.cell? ⟨b,o,none⟩=some x)/\iw.Nodup/\∀b∈iw,b<w'.heap.size/\(b∈fp\/b∈Ax.flatten\/w.heap.size<=b):=by
  intro TZ PG fps hold ajb Iz Tm aqC qa
  obtain⟨base,rfl⟩:=ajb
  have ajt:=hold w.drew rfl
  have gI:Builtin.nextslicecap (xs.length+ys.length) PG*inf.bytes<=281474976710656:=by refine growslice_fits Iz ?_;have:(xs.length+ys.length)*inf.bytes<=1073741824*65536:=Nat.mul_le_mul IL hby;omega
  have dJ:(Builtin.append_ #[t,t'] ty #[.slice base xs.length PG,u]).run P w=
   .ok (.slice (some ⟨w.heap.size,0,none⟩) (xs.length+ys.length) (grownCap w (xs.length+ys.length) PG te))
    (w.drew.alloc (.cells (TZ.toArray++news.toArray++Builtin.zeroCells z.cells (grownCap w (xs.length+ys.length) PG te-(xs.length+ys.length))) te)):=by
   have h1:¬(xs.length+ys.length<=PG):=by omega
   have h2:¬(281474976710656<Builtin.nextslicecap (xs.length+ys.length) PG*inf.bytes):=by omega
   simp only[Builtin.append_]
   simp only[underlying,Sem.run_bind,run_program,ht,UK,Result.andThen_ok,Sem.run_pure,sizeOf,typeInfo,Em,tw,List.getElem?_toArray,cq,eI,hlen,aP,aY,cc,
    h1,h63,false_and,bL,zeroValue,newRow]
   rw[aF (by simpa using h2)]
   simp only[Sem.run_bind,run_choose,Question.forced,aY,cc,Result.andThen_ok,run_program,Em,run_askRoom,Sem.run_pure]
   have e1:=ajt
   have e2:=agA
   simp only[World.drew]at e1 e2
   simp only[e1,e2,Result.andThen_ok,hz,Sem.run_pure,run_newObj]
   rfl
  have BM:=grownCap_ge w (xs.length+ys.length) PG te
  generalize grownCap w (xs.length+ys.length) PG te=nc at dJ BM
  have aqN:(Builtin.zeroCells z.cells (nc-(xs.length+ys.length))).size=(nc-(xs.length+ys.length))*e.size:=by rw[size_zeroCells,hzs]
  let iX:Array Value:=TZ.toArray++news.toArray++Builtin.zeroCells z.cells (nc-(xs.length+ys.length))
  have hlo:=Tm.1
  have aqi:iX.size=nc*e.size:=by show(TZ.toArray++news.toArray++Builtin.zeroCells z.cells (nc-(xs.length+ys.length))).size=_;rw[Array.size_append,Array.size_append,aqN];simp only[List.size_toArray,hlo,JS,<-cn];congr 1;omega
  let hw':Nat->Nat:=λb=>if b=w.heap.size then(xs++ys).length*e.size else hw b
  have VF:(w.drew.alloc (.cells iX te)).heap[w.heap.size]?=some (.cells iX te (0,0)):=heap_alloc_new w.drew _
  have ahN:∀b,b<w.heap.size->(w.drew.alloc (.cells iX te)).heap[b]?=w.heap[b]?:=λb hb=>heap_alloc_old w.drew _ b hb
  have tF:iX.toList.take ((xs++ys).length*e.size)=TZ++news:=by
   show(TZ.toArray++news.toArray++Builtin.zeroCells z.cells (nc-(xs.length+ys.length))).toList.take _=_;rw[Array.toList_append,Array.toList_append];have:(TZ++news).length=(xs++ys).length*e.size:=by simp only[aw,hlo,JS,cn]
   rw[<-this];exact List.take_left
  have ail:∀b∈(fps++Ax).flatten,b<w.heap.size:=by intro b hb;rw[dN,az]at hb;exact gV b (by rcases hb with hb|hb;exact bk _ (qa b hb);exact ba _ hb)
  refine⟨_,_,hw',w.heap.size::(fps++Ax).flatten,dJ,?_,?_,?_,?_,?_,?_⟩
  ·have:=Zk (hw:=hw') (o0:=0) (xs:=xs++ys) (cap:=nc) VF (by intro j _;simp) (by rw[cm];exact aqi) (by simp;omega) (by simp[hw']) (fps:=fps++Ax) (by rw[fa,tF];refine(Tm.append G8).mono (λb hb=>?_);have gL:=ail b hb;exact⟨ahN b gL,by simp[hw',gW gL]⟩)
   rw[aw]at this
   exact this
  ·exact(Fr.drew _ w).trans (Fr.alloc _ _ _) (λb _ hh=>hh)
  ·intro b hb _;simp[hw',gW hb]
  ·intro b o x ho hx
   have hb:b<w.heap.size:=World.block_lt_of_cell? w _ hx
   exact⟨by simp[hw',gW hb];exact ho,by rw[World.cell?_of_block (a:=⟨b,o,none⟩) (ahN b hb)];exact hx⟩
  ·refine cQ.2 ⟨λhm=>nz _ (ail _ hm),?_⟩
   rw[dN];exact aqC
  ·intro b hb
   rcases cv.1 hb with rfl|hb
   ·exact⟨by simp,.inr (.inr (aR _))⟩
   ·have gL:=ail b hb
    refine⟨by simp;omega,?_⟩
    rw[dN,az]at hb
    rcases hb with hb|hb
    ·exact .inl (qa b hb)
    ·exact .inr (.inl hb)
 obtain⟨vv,hvv,ho⟩:=id eR;simp at hvv;subst hvv;rcases ho with⟨⟨ad,rfl⟩,rfl,rfl⟩|⟨b,o0,cap,arr,T,fr,fps,rfl,hb,qV,hs,hc,hh,rfl,hl,ho⟩;have aqs:∀w1:World,(Builtin.firstCells e.size ([]:aq e.D).length (.slice ad 0 0)).run P w1=.ok ([]:ie).toArray w1:=by intro w1;cases ad with|none=>simp[Builtin.firstCells]|some ad=>exact run_firstCells_some (P:=P) w1 e.size 0 ad 0 0 [] (by simp) (λj x hj=>by simp at hj)
 by_cases hm:ys.length=0;have hy:ys=[]:=cz hm;subst hy;refine⟨.slice ad 0 0,w,hw,[],?_,⟨_,rfl,.inl ⟨⟨_,rfl⟩,rfl,rfl⟩⟩,Fr.refl _ _,λ_ _ _=>rfl,λ_ _ _ ho hx=>⟨ho,hx⟩,by simp,by simp⟩;simp only[Builtin.append_];simp only[underlying,Sem.run_bind,run_program,ht,UK,Result.andThen_ok,Sem.run_pure,sizeOf,typeInfo,Em,tw,List.getElem?_toArray,cq,eI,hlen,aY,cc,cf,bL];simp only[ej]at OO;have ajq:news=[]:=cz (by rw[JS];simp);subst ajq;simp[OO];cases ad<;>simp[storeCells];refine grow [] 0 [] (λw1 _=>aqs w1) ⟨ad,by simp⟩ (by simp;omega) (kI.nil _ _ _) (by simpa using E3) (by simp);have Tm:=L2 hs hc hl ho;have hln:o0+xs.length*e.size<=arr.size:=by rw[hs];exact Nat.add_le_add_left (bZ _ hc) _
 have hol:((arr.toList.drop o0).take (xs.length*e.size)).length=xs.length*e.size:=Tm.1;by_cases aeA:xs.length+ys.length<=cap;have gI:o0+xs.length*e.size+news.length<=arr.size:=by rw[JS,hs,fF,<-cn];exact Nat.add_le_add_left (bZ _ aeA) _
 have lH:=xN P b (o0+xs.length*e.size) T fr news 0 w arr hb qV (by simpa using gI) G8.np;simp only[dM]at lH;have dJ:(Builtin.append_ #[t,t'] ty #[.slice (some ⟨b,o0,none⟩) xs.length cap,u]).run P w=.ok (.slice (some ⟨b,o0,none⟩) (xs.length+ys.length) cap) (vt w b (eF arr (o0+xs.length*e.size) news) T fr):=by simp only[Builtin.append_];simp only[underlying,Sem.run_bind,run_program,ht,UK,Result.andThen_ok,Sem.run_pure,sizeOf,typeInfo,Em,tw,List.getElem?_toArray,cq,eI,hlen,aY,cc,cf,bL,aeA,OO,ny,lH]
 have II:=mr hb;rw[List.cons_append]at E3;have ti:b∉fps.flatten++Ax.flatten:=(cQ.1 E3).1;let hw':Nat->Nat:=λc=>if c=b then o0+(xs++ys).length*e.size else hw c
 refine⟨_,_,hw',b::(fps++Ax).flatten,dJ,?_,?_,?_,?_,?_,?_⟩;have tF:((eF arr (o0+xs.length*e.size) news).toList.drop o0).take ((xs++ys).length*e.size)=(arr.toList.drop o0).take (xs.length*e.size)++news:=by
  have h2:((arr.toList.drop o0).take (xs.length*e.size)++news).length=(xs++ys).length*e.size:=by simp only[aw,hol,JS,cn]
  have h3:(xs++ys).length*e.size=xs.length*e.size+news.length:=by rw[aw,cn,JS]
  apply cM;intro j;rw[jl];by_cases hj:j<(xs++ys).length*e.size;rw[aG hj,Ad gI];by_cases h1:j<xs.length*e.size;rw[mI,bw (by omega),jl,aG h1];rw[zip,bq (by omega),hol];congr 1;omega;rw[aF hj,bH (by omega)]
 have:=Zk (hw:=hw') (w:=vt w b (eF arr (o0+xs.length*e.size) news) T fr) (xs:=xs++ys) (cap:=cap) (fps:=fps++Ax) (yB II) (λj hj=>qV j (by rwa[iD]at hj)) (by rw[iD];exact hs) (by simp;omega) (by simp[hw']) (by
  rw[tF];refine(Tm.append G8).mono (λc D9=>?_);have E4:c≠b:=by rintro rfl;exact ti (by rwa[dN]at D9)
  exact⟨mY E4,by simp[hw',E4]⟩)
 rw[aw]at this;exact this;exact⟨rfl,rfl,rfl,by rw[lV];exact aR _,λc _ D9=>mY (λe=>D9 (by simp[e]))⟩;intro c _ D9;have E4:c≠b:=λe=>D9 (by simp[e]);simp[hw',E4];intro c o x Nj hx;by_cases hcb:c=b;subst hcb;rw[hh]at Nj;refine⟨?_,?_⟩;simp only[hw',bL,aw,cn];omega;rw[mZ (yB II),<-cg,Ad gI,mI,cg,<-mZ hb];exact hx;exact⟨by simp[hw',hcb];exact Nj,by rw[World.cell?_of_block (a:=⟨c,o,none⟩) (mY hcb)];exact hx⟩;refine cQ.2 ⟨by rw[dN];exact ti,?_⟩;rw[dN];exact(cQ.1 E3).2;intro c D9;rw[lV];rcases cv.1 D9 with rfl|D9;exact⟨II,.inl (by simp)⟩;rw[dN,az]at D9;rcases D9 with D9|D9;exact⟨gV c (by simp[D9]),.inl (by simp[D9])⟩;exact⟨gV c (by simp[D9]),.inr (.inl D9)⟩;refine grow ((arr.toList.drop o0).take (xs.length*e.size)) cap fps (λw1 hw1=>?_) ⟨_,rfl⟩ (by omega) Tm ?_ (λc D9=>by simp[D9]);refine run_firstCells_some (P:=P) w1 e.size xs.length ⟨b,o0,none⟩ xs.length cap _ hol (λj x hj=>?_);have hb1:w1.heap[b]?=some (.cells arr T fr):=by rw[hw1];exact hb
 rw[ny,mZ hb1];rw[jl]at hj;split at hj;simpa using hj;cases hj;rw[List.cons_append]at E3;exact(cQ.1 E3).2
def vK (w:World)(b o n:Nat):ie:=(List.range n).map λj=>(w.cell? ⟨b,o+j,none⟩).getD undef
theorem aaT {S:Nat->Nat->Prop}{u:Value}{ys:aq e.D}(h:jf w S (.sl e) [u] ys)(hf:e.flat=true)(hw:Nat->Nat): ∃news,Src P w e.size u ys.length news/\kI hw w e news ys (List.replicate ys.length []):=by
 obtain⟨v,hv,h⟩:=h;simp at hv;subst hv;rcases h with⟨⟨ad,rfl⟩,rfl⟩|⟨b,o,cap,rfl,hc,h⟩;cases ad with|none=>exact⟨[],⟨λ_=>rfl,λ_ _=>rfl⟩,kI.nil _ _ _⟩|some ad=>exact⟨[],⟨λ_=>rfl,λw1 _=>run_firstCells_some (P:=P) w1 e.size 0 ad 0 0 [] (by simp) (λj x hj=>by simp at hj)⟩,kI.nil _ _ _⟩
 have AQ:∀j,j<ys.length*e.size->∃x,w.cell? ⟨b,o+j,none⟩=some x:=by
  intro j hj;have hi:j/e.size<ys.length:=by rw[Nat.div_lt_iff_lt_mul e.size_pos];exact hj
  obtain⟨cs,LA,hr⟩:=h (j/e.size) _ (al hi);have hm:j%e.size<cs.length:=by rw[jf.length hr];exact Nat.mod_lt _ e.size_pos
  have:=(LA (j%e.size) _ (al hm)).2;rw[fF,Nat.mul_comm,Nat.div_add_mod]at this;exact⟨_,this⟩
 have gX:∀j x,(vK w b o (ys.length*e.size))[j]?=some x->w.cell? ⟨b,o+j,none⟩=some x:=by intro j x hx;simp only[vK,List.getElem?_map]at hx;rcases bS j (ys.length*e.size)with hj|hj;rw[List.getElem?_range hj]at hx;obtain⟨y,hy⟩:=AQ j hj;simp[hy]at hx;rw[hy,hx];rw[bH (by simpa using hj)]at hx;cases hx
 have hlen:(vK w b o (ys.length*e.size)).length=ys.length*e.size:=by simp[vK]
 refine⟨vK w b o (ys.length*e.size),⟨λ_=>rfl,λw1 hw1=>?_⟩,⟨hlen,by simp,λi y f hy hf'=>?_⟩⟩;refine run_firstCells_some (P:=P) w1 e.size ys.length ⟨b,o,none⟩ ys.length cap _ hlen (λj x hj=>?_);rw[ny];have:=gX j x hj;simpa[World.cell?,hw1]using this;have hi:i<ys.length:=(aD.1 hy).1;have H5:f=[]:=by rw[dk,aG hi]at hf';simpa using hf'.symm
 subst H5;obtain⟨cs,LA,hr⟩:=h i y hy;have hm:(i+1)*e.size<=ys.length*e.size:=bZ _ hi;rw[cn,dQ]at hm;have e1:((vK w b o (ys.length*e.size)).drop (i*e.size)).take e.size=cs:=by
  apply cM;intro j;rw[jl];have hcl:=jf.length hr;split;rename_i hj;have hjc:j<cs.length:=by omega
  have hx:=(LA j _ (al hjc)).2;have h2:(vK w b o (ys.length*e.size))[i*e.size+j]?=some cs[j]:=by simp only[vK,List.getElem?_map,List.getElem?_range (show i*e.size+j<ys.length*e.size by omega),dg];rw[<-fF,hx];rfl
  rw[h2,al hjc];rw[bH (by omega)]
 rw[e1];exact OB hr hf
theorem ahj {u:Value}{ys:aq e.D}{fp:dX}(h:ez hw w (.sl e) [u] ys fp): ∃news Ax,Src P w e.size u ys.length news/\kI hw w e news ys Ax/\(∀b∈Ax.flatten,b∈fp)/\(fp.Nodup->Ax.flatten.Nodup):=by
 obtain⟨v,hv,h⟩:=h;simp at hv;subst hv;rcases h with⟨⟨ad,rfl⟩,rfl,rfl⟩|⟨b,o0,cap,arr,T,fr,fps,rfl,hb,qV,hs,hc,hh,rfl,hl,ho⟩;refine⟨[],[],⟨λ_=>rfl,λw1 _=>?_⟩,kI.nil _ _ _,by simp,by simp⟩;cases ad with|none=>rfl|some ad=>exact run_firstCells_some (P:=P) w1 e.size 0 ad 0 0 [] (by simp) (λj x hj=>by simp at hj)
 have Tm:=L2 hs hc hl ho;refine⟨_,fps,⟨λ_=>rfl,λw1 hw1=>?_⟩,Tm,λc D9=>by simp[D9],λhn=>(cQ.1 hn).2⟩;refine run_firstCells_some (P:=P) w1 e.size ys.length ⟨b,o0,none⟩ ys.length cap _ Tm.1 (λj x hj=>?_);have hb1:w1.heap[b]?=some (.cells arr T fr):=by rw[hw1];exact hb
 rw[ny,mZ hb1];rw[jl]at hj;split at hj;simpa using hj;cases hj
theorem ahk (s:aq UInt8)(hw:Nat->Nat):∃news,Src P w (CT.size (.int .u8)) (.string ⟨s.toArray⟩) (dp s).length news/\kI hw w (.int .u8) news (dp s) (List.replicate (dp s).length []):=by
 have hl:(dp s).length=s.length:=by simp[dp]
 refine⟨(dp s).map (Value.int .u8),⟨λw1=>by simp[Builtin.lenOf,zj,hl],λw1 _=>?_⟩,⟨by simp[CT.size],by simp,λi y f hy hf=>?_⟩⟩;have:(ByteArray.mk s.toArray).extract 0 s.length=ByteArray.mk s.toArray:=by rw[extract_mk];simp
 simp[Builtin.firstCells,this,dp];have hi:i<(dp s).length:=(aD.1 hy).1;have hf':f=[]:=by rw[dk,aG hi]at hf;simpa using hf.symm
 subst hf';refine⟨?_,rfl⟩;apply cM;intro j;rw[jl];simp only[CT.size,nA];cases j with|zero=>simp[hy]|succ j=>simp
theorem Vh {o:Oper}{s x:Operand}{t t':TypeId}(ho:o.op=.call {callee:=.builtin .append,args:=#[s,x],argTypes:=#[t,t']}){v:Value}{w':World}(h:(Builtin.append_ #[t,t'] o.type #[a.eval s,a.eval x]).run P w=.ok v w'):(execOp a.eval o).run P w=.ok (.value v) w':=by
 have e1:(#[s,x]:Array Operand).map a.eval=#[a.eval s,a.eval x]:=by simp
 simp only[execOp,ho,resolve,e1,Sem.run_bind,Sem.run_pure,Result.andThen_ok,invoke,builtin];show((Builtin.append_ #[t,t'] o.type #[a.eval s,a.eval x]).run P w).andThen _=_;rw[h];rfl
theorem UX {E:Env}(hE:js P E.ty){o:Oper}{args:Array Operand}{ts:Array TypeId}(ho:o.op=.call {callee:=.builtin .append,args,argTypes:=ts})(h:nv C st a w){K:AS->au R}(hk:yC E o ts.toList args.toList st K=some r):nb P C o a w K r:=by
 obtain⟨g,hg⟩:=h;unfold yC at hk;split at hk;rename_i t t' s x qW fb;have ea:args=#[s,x]:=by apply ei;simpa using fb
 have et:ts=#[t,t']:=by apply ei;simpa using qW
 subst ea;subst et;split at hk;rename_i tag e xs st1 Tw;obtain⟨g1,hg1⟩:=hg.take s;rw[Tw]at hg1;simp only[bU]at hg1;obtain⟨g2,Ju⟩:=hg1.take x
 have fin:∀(u:AV)(st2:AS),st1.take x=(u,st2)->dx C g2 st2 a w [(a.eval s,.val false [.sl (.own tag) e xs]),(a.eval x,u)]->∀(ys:aq e.D)(news:ie)(Ax:aq dX)(fq:dX),
  fL (cy C g2 st2 w) (a.eval x) u fq->(∀b∈fq,g2.dK b=some (.hand 1))->E.sl t=some e->∀dt,P.underlying t'=some dt->(∀k,dt≠ .int k)->
  Src P w e.size (a.eval x) ys.length news->kI g2.hw w e news ys Ax->(∀b∈Ax.flatten,b∈fq)->Ax.flatten.Nodup->xs.length+ys.length<=1073741824->
  K (st2.qb o.dst e (xs++ys))=some r->nb P C o a w K r:=by
  intro u st2 _ Ju ys news Ax fq _ hlq hT dt hdt aqn Kg G8 qa E3 IL To
  obtain⟨fp,hrs,aqE,aeq⟩:=Ju.hands 0 _ _ rfl
  have eR:=(dU hrs).1
  obtain⟨te,hu,he⟩:=HC hE hT
  have gV:∀b∈fp++Ax.flatten,b<w.heap.size:=by intro b hb;rcases az.1 hb with hb|hb;exact(Ju.fB b _ (aeq b hb)).1;exact(Ju.fB b _ (hlq b (qa b hb))).1
  have aqA:(fp++Ax.flatten).Nodup:=by refine aB.2 ⟨aqE,E3,?_⟩;rintro b hb c hc rfl;have h1:=aeq b hb;rw[hlq b (qa b hc)]at h1;cases h1
  obtain⟨v',w',hw',iw,dJ,En,gP,Ca,Kc,Tq,LB⟩:=XP (ty:=o.type) hu he hdt aqn eR Kg G8 gV aqA IL
  refine⟨v',w',_,.inl (Vh ho dJ),?_,To⟩
  refine Ju.PA o.dst (hw':=hw') (fp:=iw) ⟨gP.os,gP.tape,gP.output,gP.size,λb hb hh=>gP.block b hb (λhm=>hh (by rw[aeq b hm];rfl))⟩ ?_ Kc En Tq ?_
  ·intro b y hb hh
   refine Ca b (Ju.fB b y hb).1 (λhm=>hh ?_)
   rw[<-hb,aeq b hm];rfl
  ·intro b hb
   obtain⟨h1,h2⟩:=LB b hb
   refine⟨h1,?_⟩
   rcases h2 with h2|h2|h2
   ·exact .inl (by rw[aeq b h2];rfl)
   ·exact .inl (by rw[hlq b (qa b h2)];rfl)
   ·exact .inr h2
 split at hk;rename_i fl e' ys st2 Kh;split at hk;rename_i hee;subst hee;split at hk;rename_i hc;obtain⟨hT,hT',hgv⟩:=hc;unfold room at hk;split at hk;rename_i IL;rw[Kh]at Ju;have Yt:dx C g2 st2 a w [(a.eval s,.val false [.sl (.own tag) e' xs]),(a.eval x,.val false [.sl fl e' ys])]:=Ju;obtain⟨fq,VK,hnq,hlq⟩:=Yt.hands 1 _ _ rfl;obtain⟨te',RI,_⟩:=HC hE hT';have xY:st2.ep=st.ep:=by have h1:= @UA st s;have h2:= @UA st1 x;rw[Tw]at h1;rw[Kh]at h2;exact h2.trans h1
 have hcx:=dU VK;cases fl with
 |nest _ _ _ _ _ _=>simp[qL.vx]at hgv
 |part _ _ _ _=>simp[qL.vx]at hgv
 |fe _ _ _=>simp[qL.vx]at hgv
 |own tg=>obtain⟨news,Ax,Kg,G8,qa,E3⟩:=ahj (P:=P) hcx.1;exact fin _ st2 Kh Yt ys news Ax fq VK hlq hT _ RI (by simp) Kg G8 qa (E3 hnq) IL hk
 |arg _=>obtain⟨news,Kg,G8⟩:=aaT (P:=P) hcx.2 (by simpa[qL.vx]using hgv) g2.hw;exact fin _ st2 Kh Yt ys news _ fq VK hlq hT _ RI (by simp) Kg G8 (by simp) (by simp) IL hk
 |loc ep pv=>
  simp only[qL.vx,ah,bD]at hgv;have aqq:ep=(cy C g2 st2 w).ep:=by show ep=st2.ep;rw[xY];exact hgv.1
  obtain⟨news,Kg,G8⟩:=aaT (P:=P) (hcx.2.2.2.1 aqq) hgv.2 g2.hw;exact fin _ st2 Kh Yt ys news _ fq VK hlq hT _ RI (by simp) Kg G8 (by simp) (by simp) IL hk
 cases hk;cases hk;cases hk;rename_i s0 st2 Kh;split at hk;rename_i hee;subst hee;split at hk;rename_i hc;obtain⟨hT,hT'⟩:=hc;unfold room at hk;split at hk;rename_i IL;rw[Kh]at Ju;have Yt:dx C g2 st2 a w [(a.eval s,.val false [.sl (.own tag) (.int .u8) xs]),(a.eval x,.val false [.str s0])]:=Ju;obtain⟨fq,VK,hnq,hlq⟩:=Yt.hands 1 _ _ rfl;have hcx:=dU VK;obtain⟨news,Kg,G8⟩:=ahk (P:=P) (w:=w) s0 g2.hw;rw[<-hcx.1]at Kg;have hl:(dp s0).length=s0.length:=by simp[dp]
 exact fin _ st2 Kh Yt (dp s0) news _ fq VK hlq hT _ (Uv hE hT') (by simp) Kg G8 (by simp) (by simp) (by rw[hl];exact IL) hk;cases hk;cases hk;cases hk;cases hk;cases hk;cases hk
end Go.Dn
