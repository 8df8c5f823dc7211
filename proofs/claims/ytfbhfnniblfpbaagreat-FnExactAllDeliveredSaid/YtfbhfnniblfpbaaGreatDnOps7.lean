import Derived.Test.YtfbhfnniblfpbaaGreatDnOps6
/- Part 7: append. -/
namespace Go.Dn
open Go.RowKit
variable {P:Program} {C:Ctx} {st:AS} {a:Act} {w:World} {R:Type} {r:R}
variable {e:CT} {hw:Nat->Nat}
structure Src (P:Program) (w:World) (size:Nat) (u:Value) (m:Nat) (news:List Value):Prop where
 len:∀w1:World,(Builtin.lenOf u).run P w1=.ok m w1
 first:∀w1:World,w1.heap=w.heap->(Builtin.firstCells size m u).run P w1=.ok news.toArray w1
theorem WY {t t' ty te:TypeId}(ht:P.underlying t=some (.slice te))(he:Ni P te e){dt:TypeDesc}(TV:P.underlying t'=some dt)(hdt:∀k,dt≠ .int k){v u:Value}{xs ys:au e.D}{fp:dI}{news:gP}{zE:au dI}(eE:dW hw w (.sl e) [v] xs fp)(Ju:Src P w e.size u ys.length news)(Gd:ko hw w e news ys zE)(gq:∀b∈fp++zE.flatten,b<w.heap.size)(D9:(fp++zE.flatten).Nodup)(HS:xs.length+ys.length<=1073741824): ∃v' w' hw' hY,(Builtin.append_ #[t,t'] ty #[v,u]).run P w=.ok v' w'/\dW hw' w' (.sl e) [v'] (xs++ys) hY/\Fr (λb=>b∈fp) w w'/\(∀b,b<w.heap.size->b∉fp->hw' b=hw b)/\ (∀b o x,o<hw b->w.cell? ⟨b,o,none⟩=some x->o<hw' b/\w'.cell? ⟨b,o,none⟩=some x)/\hY.Nodup/\∀b∈hY,b<w'.heap.size/\(b∈fp\/b∈zE.flatten\/w.heap.size<=b):=by
 obtain⟨⟨inf,z,Dv,sR,hby,hz,hzc⟩,_⟩:=he;have hzs:z.cells.size=e.size:=by rw[<-pg e,<-hzc];simp
 have aaN:=e.size_pos;have hnz:(match dt with| .int _=>true|_=>false)=false:=by cases dt<;>simp;exact absurd rfl (hdt _)
 have N8:=Ju.first w rfl
 have afr:=Ju.first w.drew rfl
 have hlen:=Ju.len;have I3:=Gd.1;have h63:¬((xs.length+ys.length:Nat):Int)>IntKind.i64.max:=by
  have:IntKind.i64.max=9223372036854775807:=by decide
  omega
 have grow:∀(Tb:gP)(O1:Nat)(fps:au dI),(∀w1:World,w1.heap=w.heap->(Builtin.firstCells e.size xs.length v).run P w1=.ok Tb.toArray w1)->(∃base,v=.slice base xs.length O1)->O1<xs.length+ys.length->
  ko hw w e Tb xs fps->(fps.flatten++zE.flatten).Nodup->(∀b∈fps.flatten,b∈fp)->
  ∃v' w' hw' hY,(Builtin.append_ #[t,t'] ty #[v,u]).run P w=.ok v' w'/\dW hw' w' (.sl e) [v'] (xs++ys) hY/\Fr (λb=>b∈fp) w w'/\(∀b,b<w.heap.size->b∉fp->hw' b=hw b)/\
  (∀b o x,o<hw b->w.cell? ⟨b,o,none⟩=some x->o<hw' b/\w'.cell? ⟨b,o,none⟩=some x)/\hY.Nodup/\∀b∈hY,b<w'.heap.size/\(b∈fp\/b∈zE.flatten\/w.heap.size<=b):=by
  intro Tb O1 fps hold ahY HH SC aoX pG
  obtain⟨base,rfl⟩:=ahY
  have aih:=hold w.drew rfl
  have gk:Builtin.nextslicecap (xs.length+ys.length) O1*inf.bytes<=281474976710656:=by refine growslice_fits HH ?_;have:(xs.length+ys.length)*inf.bytes<=1073741824*65536:=Nat.mul_le_mul HS hby;omega
  have dA:(Builtin.append_ #[t,t'] ty #[.slice base xs.length O1,u]).run P w=
   .ok (.slice (some ⟨w.heap.size,0,none⟩) (xs.length+ys.length) (grownCap w (xs.length+ys.length) O1 te))
    (w.drew.alloc (.cells (Tb.toArray++news.toArray++Builtin.zeroCells z.cells (grownCap w (xs.length+ys.length) O1 te-(xs.length+ys.length))) te)):=by
   have h1:¬(xs.length+ys.length<=O1):=by omega
   have h2:¬(281474976710656<Builtin.nextslicecap (xs.length+ys.length) O1*inf.bytes):=by omega
   simp only[Builtin.append_]
   simp only[underlying,Sem.run_bind,run_program,ht,TV,Result.andThen_ok,Sem.run_pure,sizeOf,typeInfo,Dv,sR,List.getElem?_toArray,ch,eh,hlen,aO,aY,bV,
    h1,h63,false_and,bN,zeroValue,newRow]
   rw[aE (by simpa using h2)]
   simp only[Sem.run_bind,run_choose,Question.forced,aY,bV,Result.andThen_ok,run_program,Dv,run_askRoom,Sem.run_pure]
   have e1:=aih
   have e2:=afr
   simp only[World.drew]at e1 e2
   simp only[e1,e2,Result.andThen_ok,hz,Sem.run_pure,run_newObj]
   rfl
  have zX:=grownCap_ge w (xs.length+ys.length) O1 te
  generalize grownCap w (xs.length+ys.length) O1 te=nc at dA zX
  have ao8:(Builtin.zeroCells z.cells (nc-(xs.length+ys.length))).size=(nc-(xs.length+ys.length))*e.size:=by rw[size_zeroCells,hzs]
  let iJ:Array Value:=Tb.toArray++news.toArray++Builtin.zeroCells z.cells (nc-(xs.length+ys.length))
  have hlo:=SC.1
  have aoD:iJ.size=nc*e.size:=by show(Tb.toArray++news.toArray++Builtin.zeroCells z.cells (nc-(xs.length+ys.length))).size=_;rw[Array.size_append,Array.size_append,ao8];simp only[List.size_toArray,hlo,I3,<-cl];congr 1;omega
  let hw':Nat->Nat:=λb=>if b=w.heap.size then(xs++ys).length*e.size else hw b
  have UN:(w.drew.alloc (.cells iJ te)).heap[w.heap.size]?=some (.cells iJ te (0,0)):=heap_alloc_new w.drew _
  have agy:∀b,b<w.heap.size->(w.drew.alloc (.cells iJ te)).heap[b]?=w.heap[b]?:=λb hb=>heap_alloc_old w.drew _ b hb
  have sX:iJ.toList.take ((xs++ys).length*e.size)=Tb++news:=by
   show(Tb.toArray++news.toArray++Builtin.zeroCells z.cells (nc-(xs.length+ys.length))).toList.take _=_;rw[Array.toList_append,Array.toList_append];have:(Tb++news).length=(xs++ys).length*e.size:=by simp only[ar,hlo,I3,cl]
   rw[<-this];exact List.take_left
  have ag8:∀b∈(fps++zE).flatten,b<w.heap.size:=by intro b hb;rw[dD,ay]at hb;exact gq b (by rcases hb with hb|hb;exact bj _ (pG b hb);exact ba _ hb)
  refine⟨_,_,hw',w.heap.size::(fps++zE).flatten,dA,?_,?_,?_,?_,?_,?_⟩
  ·have:=Yk (hw:=hw') (o0:=0) (xs:=xs++ys) (cap:=nc) UN (by intro j _;simp) (by rw[cc];exact aoD) (by simp;omega) (by simp[hw']) (fps:=fps++zE) (by rw[ef,sX];refine(SC.append Gd).mono (λb hb=>?_);have gn:=ag8 b hb;exact⟨agy b gn,by simp[hw',gD gn]⟩)
   rw[ar]at this
   exact this
  ·exact(Fr.drew _ w).trans (Fr.alloc _ _ _) (λb _ hh=>hh)
  ·intro b hb _;simp[hw',gD hb]
  ·intro b o x ho hx
   have hb:b<w.heap.size:=World.block_lt_of_cell? w _ hx
   exact⟨by simp[hw',gD hb];exact ho,by rw[World.cell?_of_block (a:=⟨b,o,none⟩) (agy b hb)];exact hx⟩
  ·refine cJ.2 ⟨λhm=>ng _ (ag8 _ hm),?_⟩
   rw[dD];exact aoX
  ·intro b hb
   rcases cg.1 hb with rfl|hb
   ·exact⟨by simp,.inr (.inr (aX _))⟩
   ·have gn:=ag8 b hb
    refine⟨by simp;omega,?_⟩
    rw[dD,ay]at hb
    rcases hb with hb|hb
    ·exact .inl (pG b hb)
    ·exact .inr (.inl hb)
 obtain⟨vv,ZA,ho⟩:=id eE;simp at ZA;subst ZA;rcases ho with⟨⟨ad,rfl⟩,rfl,rfl⟩|⟨b,o0,cap,arr,T,fr,fps,rfl,hb,qG,hs,hc,hh,rfl,hl,ho⟩;have aoN:∀w1:World,(Builtin.firstCells e.size ([]:au e.D).length (.slice ad 0 0)).run P w1=.ok ([]:gP).toArray w1:=by intro w1;cases ad with|none=>simp[Builtin.firstCells]|some ad=>exact run_firstCells_some (P:=P) w1 e.size 0 ad 0 0 [] (by simp) (λj x hj=>by simp at hj)
 by_cases hm:ys.length=0;have hy:ys=[]:=cr hm;subst hy;refine⟨.slice ad 0 0,w,hw,[],?_,⟨_,rfl,.inl ⟨⟨_,rfl⟩,rfl,rfl⟩⟩,Fr.refl _ _,λ_ _ _=>rfl,λ_ _ _ ho hx=>⟨ho,hx⟩,by simp,by simp⟩;simp only[Builtin.append_];simp only[underlying,Sem.run_bind,run_program,ht,TV,Result.andThen_ok,Sem.run_pure,sizeOf,typeInfo,Dv,sR,List.getElem?_toArray,ch,eh,hlen,aY,bV,bR,bN];simp only[dU]at N8;have aid:news=[]:=cr (by rw[I3];simp);subst aid;simp[N8];cases ad<;>simp[storeCells];refine grow [] 0 [] (λw1 _=>aoN w1) ⟨ad,by simp⟩ (by simp;omega) (ko.nil _ _ _) (by simpa using D9) (by simp);have SC:=Lc hs hc hl ho;have hln:o0+xs.length*e.size<=arr.size:=by rw[hs];exact Nat.add_le_add_left (cA _ hc) _
 have hol:((arr.toList.drop o0).take (xs.length*e.size)).length=xs.length*e.size:=SC.1;by_cases adz:xs.length+ys.length<=cap;have gk:o0+xs.length*e.size+news.length<=arr.size:=by rw[I3,hs,fb,<-cl];exact Nat.add_le_add_left (cA _ adz) _
 have lf:=wZ P b (o0+xs.length*e.size) T fr news 0 w arr hb qG (by simpa using gk) Gd.mU;simp only[dC]at lf;have dA:(Builtin.append_ #[t,t'] ty #[.slice (some ⟨b,o0,none⟩) xs.length cap,u]).run P w=.ok (.slice (some ⟨b,o0,none⟩) (xs.length+ys.length) cap) (uL w b (ec arr (o0+xs.length*e.size) news) T fr):=by simp only[Builtin.append_];simp only[underlying,Sem.run_bind,run_program,ht,TV,Result.andThen_ok,Sem.run_pure,sizeOf,typeInfo,Dv,sR,List.getElem?_toArray,ch,eh,hlen,aY,bV,bR,bN,adz,N8,nf,lf]
 have HP:=lQ hb;rw[List.cons_append]at D9;have sO:b∉fps.flatten++zE.flatten:=(cJ.1 D9).1;let hw':Nat->Nat:=λc=>if c=b then o0+(xs++ys).length*e.size else hw c
 refine⟨_,_,hw',b::(fps++zE).flatten,dA,?_,?_,?_,?_,?_,?_⟩;have sX:((ec arr (o0+xs.length*e.size) news).toList.drop o0).take ((xs++ys).length*e.size)=(arr.toList.drop o0).take (xs.length*e.size)++news:=by
  have h2:((arr.toList.drop o0).take (xs.length*e.size)++news).length=(xs++ys).length*e.size:=by simp only[ar,hol,I3,cl]
  have h3:(xs++ys).length*e.size=xs.length*e.size+news.length:=by rw[ar,cl,I3]
  apply cI;intro j;rw[ja];by_cases hj:j<(xs++ys).length*e.size;rw[aF hj,zb gk];by_cases h1:j<xs.length*e.size;rw[mG,bA (by omega),ja,aF h1];rw[zip,bq (by omega),hol];congr 1;omega;rw[aE hj,bE (by omega)]
 have:=Yk (hw:=hw') (w:=uL w b (ec arr (o0+xs.length*e.size) news) T fr) (xs:=xs++ys) (cap:=cap) (fps:=fps++zE) (xK HP) (λj hj=>qG j (by rwa[ik]at hj)) (by rw[ik];exact hs) (by simp;omega) (by simp[hw']) (by
  rw[sX];refine(SC.append Gd).mono (λc Dg=>?_);have Ea:c≠b:=by rintro rfl;exact sO (by rwa[dD]at Dg)
  exact⟨mF Ea,by simp[hw',Ea]⟩)
 rw[ar]at this;exact this;exact⟨rfl,rfl,rfl,by rw[ly];exact aX _,λc _ Dg=>mF (λe=>Dg (by simp[e]))⟩;intro c _ Dg;have Ea:c≠b:=λe=>Dg (by simp[e]);simp[hw',Ea];intro c o x MF hx;by_cases hcb:c=b;subst hcb;rw[hh]at MF;refine⟨?_,?_⟩;simp only[hw',bN,ar,cl];omega;rw[mH (xK HP),<-bZ,zb gk,mG,bZ,<-mH hb];exact hx;exact⟨by simp[hw',hcb];exact MF,by rw[World.cell?_of_block (a:=⟨c,o,none⟩) (mF hcb)];exact hx⟩;refine cJ.2 ⟨by rw[dD];exact sO,?_⟩;rw[dD];exact(cJ.1 D9).2;intro c Dg;rw[ly];rcases cg.1 Dg with rfl|Dg;exact⟨HP,.inl (by simp)⟩;rw[dD,ay]at Dg;rcases Dg with Dg|Dg;exact⟨gq c (by simp[Dg]),.inl (by simp[Dg])⟩;exact⟨gq c (by simp[Dg]),.inr (.inl Dg)⟩;refine grow ((arr.toList.drop o0).take (xs.length*e.size)) cap fps (λw1 hw1=>?_) ⟨_,rfl⟩ (by omega) SC ?_ (λc Dg=>by simp[Dg]);refine run_firstCells_some (P:=P) w1 e.size xs.length ⟨b,o0,none⟩ xs.length cap _ hol (λj x hj=>?_);have Zt:w1.heap[b]?=some (.cells arr T fr):=by rw[hw1];exact hb
 rw[nf,mH Zt];rw[ja]at hj;split at hj;simpa using hj;cases hj;rw[List.cons_append]at D9;exact(cJ.1 D9).2
def vg (w:World)(b o n:Nat):gP:=(List.range n).map λj=>(w.cell? ⟨b,o+j,none⟩).getD undef
theorem Z6 {S:Nat->Nat->Prop}{u:Value}{ys:au e.D}(h:iU w S (.sl e) [u] ys)(hf:e.flat=true)(hw:Nat->Nat): ∃news,Src P w e.size u ys.length news/\ko hw w e news ys (List.replicate ys.length []):=by
 obtain⟨v,hv,h⟩:=h;simp at hv;subst hv;rcases h with⟨⟨ad,rfl⟩,rfl⟩|⟨b,o,cap,rfl,hc,h⟩;cases ad with|none=>exact⟨[],⟨λ_=>rfl,λ_ _=>rfl⟩,ko.nil _ _ _⟩|some ad=>exact⟨[],⟨λ_=>rfl,λw1 _=>run_firstCells_some (P:=P) w1 e.size 0 ad 0 0 [] (by simp) (λj x hj=>by simp at hj)⟩,ko.nil _ _ _⟩
 have zW:∀j,j<ys.length*e.size->∃x,w.cell? ⟨b,o+j,none⟩=some x:=by
  intro j hj;have hi:j/e.size<ys.length:=by rw[Nat.div_lt_iff_lt_mul e.size_pos];exact hj
  obtain⟨cs,KS,hr⟩:=h (j/e.size) _ (al hi);have hm:j%e.size<cs.length:=by rw[iU.length hr];exact Nat.mod_lt _ e.size_pos
  have:=(KS (j%e.size) _ (al hm)).2;rw[fb,Nat.mul_comm,Nat.div_add_mod]at this;exact⟨_,this⟩
 have gE:∀j x,(vg w b o (ys.length*e.size))[j]?=some x->w.cell? ⟨b,o+j,none⟩=some x:=by intro j x hx;simp only[vg,List.getElem?_map]at hx;rcases bL j (ys.length*e.size)with hj|hj;rw[List.getElem?_range hj]at hx;obtain⟨y,hy⟩:=zW j hj;simp[hy]at hx;rw[hy,hx];rw[bE (by simpa using hj)]at hx;cases hx
 have hlen:(vg w b o (ys.length*e.size)).length=ys.length*e.size:=by simp[vg]
 refine⟨vg w b o (ys.length*e.size),⟨λ_=>rfl,λw1 hw1=>?_⟩,⟨hlen,by simp,λi y f hy hf'=>?_⟩⟩;refine run_firstCells_some (P:=P) w1 e.size ys.length ⟨b,o,none⟩ ys.length cap _ hlen (λj x hj=>?_);rw[nf];have:=gE j x hj;simpa[World.cell?,hw1]using this;have hi:i<ys.length:=(aD.1 hy).1;have Hh:f=[]:=by rw[db,aF hi]at hf';simpa using hf'.symm
 subst Hh;obtain⟨cs,KS,hr⟩:=h i y hy;have hm:(i+1)*e.size<=ys.length*e.size:=cA _ hi;rw[cl,ei]at hm;have e1:((vg w b o (ys.length*e.size)).drop (i*e.size)).take e.size=cs:=by
  apply cI;intro j;rw[ja];have hcl:=iU.length hr;split;rename_i hj;have hjc:j<cs.length:=by omega
  have hx:=(KS j _ (al hjc)).2;have h2:(vg w b o (ys.length*e.size))[i*e.size+j]?=some cs[j]:=by simp only[vg,List.getElem?_map,List.getElem?_range (show i*e.size+j<ys.length*e.size by omega),cY];rw[<-fb,hx];rfl
  rw[h2,al hjc];rw[bE (by omega)]
 rw[e1];exact NW hr hf
theorem af3 {u:Value}{ys:au e.D}{fp:dI}(h:dW hw w (.sl e) [u] ys fp): ∃news zE,Src P w e.size u ys.length news/\ko hw w e news ys zE/\(∀b∈zE.flatten,b∈fp)/\(fp.Nodup->zE.flatten.Nodup):=by
 obtain⟨v,hv,h⟩:=h;simp at hv;subst hv;rcases h with⟨⟨ad,rfl⟩,rfl,rfl⟩|⟨b,o0,cap,arr,T,fr,fps,rfl,hb,qG,hs,hc,hh,rfl,hl,ho⟩;refine⟨[],[],⟨λ_=>rfl,λw1 _=>?_⟩,ko.nil _ _ _,by simp,by simp⟩;cases ad with|none=>rfl|some ad=>exact run_firstCells_some (P:=P) w1 e.size 0 ad 0 0 [] (by simp) (λj x hj=>by simp at hj)
 have SC:=Lc hs hc hl ho;refine⟨_,fps,⟨λ_=>rfl,λw1 hw1=>?_⟩,SC,λc Dg=>by simp[Dg],λhn=>(cJ.1 hn).2⟩;refine run_firstCells_some (P:=P) w1 e.size ys.length ⟨b,o0,none⟩ ys.length cap _ SC.1 (λj x hj=>?_);have Zt:w1.heap[b]?=some (.cells arr T fr):=by rw[hw1];exact hb
 rw[nf,mH Zt];rw[ja]at hj;split at hj;simpa using hj;cases hj
theorem af4 (s:au UInt8)(hw:Nat->Nat):∃news,Src P w (CT.size (.int .u8)) (.string ⟨s.toArray⟩) (dc s).length news/\ko hw w (.int .u8) news (dc s) (List.replicate (dc s).length []):=by
 have hl:(dc s).length=s.length:=by simp[dc]
 refine⟨(dc s).map (Value.int .u8),⟨λw1=>by simp[Builtin.lenOf,yn,hl],λw1 _=>?_⟩,⟨by simp[CT.size],by simp,λi y f hy hf=>?_⟩⟩;have:(ByteArray.mk s.toArray).extract 0 s.length=ByteArray.mk s.toArray:=by rw[extract_mk];simp
 simp[Builtin.firstCells,this,dc];have hi:i<(dc s).length:=(aD.1 hy).1;have hf':f=[]:=by rw[db,aF hi]at hf;simpa using hf.symm
 subst hf';refine⟨?_,rfl⟩;apply cI;intro j;rw[ja];simp only[CT.size,nh];cases j with|zero=>simp[hy]|succ j=>simp
theorem Ur {o:Oper}{s x:Operand}{t t':TypeId}(ho:o.op=.call {callee:=.builtin .append,args:=#[s,x],argTypes:=#[t,t']}){v:Value}{w':World}(h:(Builtin.append_ #[t,t'] o.type #[a.eval s,a.eval x]).run P w=.ok v w'):(execOp a.eval o).run P w=.ok (.value v) w':=by
 have e1:(#[s,x]:Array Operand).map a.eval=#[a.eval s,a.eval x]:=by simp
 simp only[execOp,ho,resolve,e1,Sem.run_bind,Sem.run_pure,Result.andThen_ok,invoke,builtin];show((Builtin.append_ #[t,t'] o.type #[a.eval s,a.eval x]).run P w).andThen _=_;rw[h];rfl
theorem T7 {E:Env}(hE:jf P E.ty){o:Oper}{args:Array Operand}{ts:Array TypeId}(ho:o.op=.call {callee:=.builtin .append,args,argTypes:=ts})(h:nb C st a w){K:AS->aw R}(hk:xL E o ts.toList args.toList st K=some r):mJ P C o a w K r:=by
 obtain⟨g,hg⟩:=h;unfold xL at hk;split at hk;rename_i t t' s x qH eP;have ea:args=#[s,x]:=by apply dQ;simpa using eP
 have et:ts=#[t,t']:=by apply dQ;simpa using qH
 subst ea;subst et;split at hk;rename_i tag e xs st1 SN;obtain⟨g1,hg1⟩:=hg.take s;rw[SN]at hg1;simp only[bK]at hg1;obtain⟨g2,IA⟩:=hg1.take x
 have fin:∀(u:AV)(st2:AS),st1.take x=(u,st2)->dk C g2 st2 a w [(a.eval s,.val false [.sl (.own tag) e xs]),(a.eval x,u)]->∀(ys:au e.D)(news:gP)(zE:au dI)(fq:dI),
  fy (cq C g2 st2 w) (a.eval x) u fq->(∀b∈fq,g2.dB b=some (.hand 1))->E.sl t=some e->∀dt,P.underlying t'=some dt->(∀k,dt≠ .int k)->
  Src P w e.size (a.eval x) ys.length news->ko g2.hw w e news ys zE->(∀b∈zE.flatten,b∈fq)->zE.flatten.Nodup->xs.length+ys.length<=1073741824->
  K (st2.pH o.dst e (xs++ys))=some r->mJ P C o a w K r:=by
  intro u st2 _ IA ys news zE fq _ hlq hT dt hdt aoI Ju Gd pG D9 HS SF
  obtain⟨fp,hrs,aoZ,adp⟩:=IA.hands 0 _ _ rfl
  have eE:=(dE hrs).1
  obtain⟨te,hu,he⟩:=GK hE hT
  have gq:∀b∈fp++zE.flatten,b<w.heap.size:=by intro b hb;rcases ay.1 hb with hb|hb;exact(IA.fa b _ (adp b hb)).1;exact(IA.fa b _ (hlq b (pG b hb))).1
  have aoV:(fp++zE.flatten).Nodup:=by refine aB.2 ⟨aoZ,D9,?_⟩;rintro b hb c hc rfl;have h1:=adp b hb;rw[hlq b (pG b hc)]at h1;cases h1
  obtain⟨v',w',hw',hY,dA,Dw,gw,Bl,Jq,SI,KT⟩:=WY (ty:=o.type) hu he hdt aoI eE Ju Gd gq aoV HS
  refine⟨v',w',_,.inl (Ur ho dA),?_,SF⟩
  refine IA.OV o.dst (hw':=hw') (fp:=hY) ⟨gw.os,gw.tape,gw.output,gw.size,λb hb hh=>gw.block b hb (λhm=>hh (by rw[adp b hm];rfl))⟩ ?_ Jq Dw SI ?_
  ·intro b y hb hh
   refine Bl b (IA.fa b y hb).1 (λhm=>hh ?_)
   rw[<-hb,adp b hm];rfl
  ·intro b hb
   obtain⟨h1,h2⟩:=KT b hb
   refine⟨h1,?_⟩
   rcases h2 with h2|h2|h2
   ·exact .inl (by rw[adp b h2];rfl)
   ·exact .inl (by rw[hlq b (pG b h2)];rfl)
   ·exact .inr h2
 split at hk;rename_i fl e' ys st2 Jv;split at hk;rename_i hee;subst hee;split at hk;rename_i hc;obtain⟨hT,hT',hgv⟩:=hc;unfold room at hk;split at hk;rename_i HS;rw[Jv]at IA;have XA:dk C g2 st2 a w [(a.eval s,.val false [.sl (.own tag) e' xs]),(a.eval x,.val false [.sl fl e' ys])]:=IA;obtain⟨fq,US,hnq,hlq⟩:=XA.hands 1 _ _ rfl;obtain⟨te',Q0,_⟩:=GK hE hT';have xl:st2.ep=st.ep:=by have h1:= @TK st s;have h2:= @TK st1 x;rw[SN]at h1;rw[Jv]at h2;exact h2.trans h1
 have hcx:=dE US;cases fl with
 |nest _ _ _ _ _ _=>simp[qt.uP]at hgv
 |part _ _ _ _=>simp[qt.uP]at hgv
 |eQ _ _ _=>simp[qt.uP]at hgv
 |own tg=>obtain⟨news,zE,Ju,Gd,pG,D9⟩:=af3 (P:=P) hcx.1;exact fin _ st2 Jv XA ys news zE fq US hlq hT _ Q0 (by simp) Ju Gd pG (D9 hnq) HS hk
 |arg _=>obtain⟨news,Ju,Gd⟩:=Z6 (P:=P) hcx.2 (by simpa[qt.uP]using hgv) g2.hw;exact fin _ st2 Jv XA ys news _ fq US hlq hT _ Q0 (by simp) Ju Gd (by simp) (by simp) HS hk
 |loc ep pv=>
  simp only[qt.uP,ah,bC]at hgv;have aoL:ep=(cq C g2 st2 w).ep:=by show ep=st2.ep;rw[xl];exact hgv.1
  obtain⟨news,Ju,Gd⟩:=Z6 (P:=P) (hcx.2.2.2.1 aoL) hgv.2 g2.hw;exact fin _ st2 Jv XA ys news _ fq US hlq hT _ Q0 (by simp) Ju Gd (by simp) (by simp) HS hk
 cases hk;cases hk;cases hk;rename_i s0 st2 Jv;split at hk;rename_i hee;subst hee;split at hk;rename_i hc;obtain⟨hT,hT'⟩:=hc;unfold room at hk;split at hk;rename_i HS;rw[Jv]at IA;have XA:dk C g2 st2 a w [(a.eval s,.val false [.sl (.own tag) (.int .u8) xs]),(a.eval x,.val false [.str s0])]:=IA;obtain⟨fq,US,hnq,hlq⟩:=XA.hands 1 _ _ rfl;have hcx:=dE US;obtain⟨news,Ju,Gd⟩:=af4 (P:=P) (w:=w) s0 g2.hw;rw[<-hcx.1]at Ju;have hl:(dc s0).length=s0.length:=by simp[dc]
 exact fin _ st2 Jv XA (dc s0) news _ fq US hlq hT _ (TF hE hT') (by simp) Ju Gd (by simp) (by simp) (by rw[hl];exact HS) hk;cases hk;cases hk;cases hk;cases hk;cases hk;cases hk
end Go.Dn
