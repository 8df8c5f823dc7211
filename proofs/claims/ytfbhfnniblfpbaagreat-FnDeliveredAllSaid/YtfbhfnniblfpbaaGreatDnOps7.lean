import Derived.Test.YtfbhfnniblfpbaaGreatDnOps6
/- Part 7: append. -/
namespace Go.Dn
open Go.RowKit
variable {P:Program} {C:Ctx} {st:AS} {a:Act} {w:World} {R:Type} {r:R}
variable {e:CT} {hw:Nat->Nat}
structure Src (P:Program) (w:World) (size:Nat) (u:Value) (m:Nat) (news:List Value):Prop where
 len:∀w1:World,(Builtin.lenOf u).run P w1=.ok m w1
 first:∀w1:World,w1.heap=w.heap->(Builtin.firstCells size m u).run P w1=.ok news.toArray w1
theorem WQ {t t' ty te:TypeId}(ht:P.underlying t=some (.slice te))(he:MF P te e){dt:TypeDesc}(WB:P.underlying t'=some dt)(hdt:∀k,dt≠ .int k){v u:Value}{xs ys:au e.D}{fp:eo}{news:ie}{zK:au eo}(fU:eP hw w (.sl e) [v] xs fp)(IM:Src P w e.size u ys.length news)(Fo:kH hw w e news ys zK)(gB:∀b∈fp++zK.flatten,b<w.heap.size)(Ft:(fp++zK.flatten).Nodup)(G6:xs.length+ys.length<=1073741824): ∃v' w' hw' jL,(Builtin.append_ #[t,t'] ty #[v,u]).run P w=.ok v' w'/\eP hw' w' (.sl e) [v'] (xs++ys) jL/\Fr (λb=>b∈fp) w w'/\(∀b,b<w.heap.size->b∉fp->hw' b=hw b)/\ (∀b o x,o<hw b->w.cell? ⟨b,o,none⟩=some x->o<hw' b/\w'.cell? ⟨b,o,none⟩=some x)/\jL.Nodup/\∀b∈jL,b<w'.heap.size/\(b∈fp\/b∈zK.flatten\/w.heap.size<=b):=by
 obtain⟨⟨inf,z,Db,uq,hby,hz,hzc⟩,_⟩:=he;have hzs:z.cells.size=e.size:=by rw[<-qb e,<-hzc];simp
 have aaG:=e.size_pos;have hnz:(match dt with| .int _=>true|_=>false)=false:=by cases dt<;>simp;exact absurd rfl (hdt _)
 have Sm:=IM.first w rfl
 have afr:=IM.first w.drew rfl
 have hlen:=IM.len;have Lk:=Fo.1;have h63:¬((xs.length+ys.length:Nat):Int)>IntKind.i64.max:=by
  have:IntKind.i64.max=9223372036854775807:=by decide
  omega
 have grow:∀(SU:ie)(Oz:Nat)(fps:au eo),(∀w1:World,w1.heap=w.heap->(Builtin.firstCells e.size xs.length v).run P w1=.ok SU.toArray w1)->(∃base,v=.slice base xs.length Oz)->Oz<xs.length+ys.length->
  kH hw w e SU xs fps->(fps.flatten++zK.flatten).Nodup->(∀b∈fps.flatten,b∈fp)->
  ∃v' w' hw' jL,(Builtin.append_ #[t,t'] ty #[v,u]).run P w=.ok v' w'/\eP hw' w' (.sl e) [v'] (xs++ys) jL/\Fr (λb=>b∈fp) w w'/\(∀b,b<w.heap.size->b∉fp->hw' b=hw b)/\
  (∀b o x,o<hw b->w.cell? ⟨b,o,none⟩=some x->o<hw' b/\w'.cell? ⟨b,o,none⟩=some x)/\jL.Nodup/\∀b∈jL,b<w'.heap.size/\(b∈fp\/b∈zK.flatten\/w.heap.size<=b):=by
  intro SU Oz fps hold aie GS Sk aou qs
  obtain⟨base,rfl⟩:=aie
  have aiz:=hold w.drew rfl
  have gy:Builtin.nextslicecap (xs.length+ys.length) Oz*inf.bytes<=281474976710656:=by refine growslice_fits GS ?_;have:(xs.length+ys.length)*inf.bytes<=1073741824*65536:=Nat.mul_le_mul G6 hby;omega
  have dX:(Builtin.append_ #[t,t'] ty #[.slice base xs.length Oz,u]).run P w=
   .ok (.slice (some ⟨w.heap.size,0,none⟩) (xs.length+ys.length) (grownCap w (xs.length+ys.length) Oz te))
    (w.drew.alloc (.cells (SU.toArray++news.toArray++Builtin.zeroCells z.cells (grownCap w (xs.length+ys.length) Oz te-(xs.length+ys.length))) te)):=by
   have h1:¬(xs.length+ys.length<=Oz):=by omega
   have h2:¬(281474976710656<Builtin.nextslicecap (xs.length+ys.length) Oz*inf.bytes):=by omega
   simp only[Builtin.append_]
   simp only[underlying,Sem.run_bind,run_program,ht,WB,Result.andThen_ok,Sem.run_pure,sizeOf,typeInfo,Db,uq,List.getElem?_toArray,cz,eH,hlen,aN,aX,cc,
    h1,h63,false_and,cp,zeroValue,newRow]
   rw[aH (by simpa using h2)]
   simp only[Sem.run_bind,run_choose,Question.forced,aX,cc,Result.andThen_ok,run_program,Db,run_askRoom,Sem.run_pure]
   have e1:=aiz
   have e2:=afr
   simp only[World.drew]at e1 e2
   simp only[e1,e2,Result.andThen_ok,hz,Sem.run_pure,run_newObj]
   rfl
  have Ae:=grownCap_ge w (xs.length+ys.length) Oz te
  generalize grownCap w (xs.length+ys.length) Oz te=nc at dX Ae
  have aoF:(Builtin.zeroCells z.cells (nc-(xs.length+ys.length))).size=(nc-(xs.length+ys.length))*e.size:=by rw[size_zeroCells,hzs]
  let jb:Array Value:=SU.toArray++news.toArray++Builtin.zeroCells z.cells (nc-(xs.length+ys.length))
  have hlo:=Sk.1
  have aob:jb.size=nc*e.size:=by show(SU.toArray++news.toArray++Builtin.zeroCells z.cells (nc-(xs.length+ys.length))).size=_;rw[Array.size_append,Array.size_append,aoF];simp only[List.size_toArray,hlo,Lk,<-cB];congr 1;omega
  let hw':Nat->Nat:=λb=>if b=w.heap.size then(xs++ys).length*e.size else hw b
  have UD:(w.drew.alloc (.cells jb te)).heap[w.heap.size]?=some (.cells jb te (0,0)):=heap_alloc_new w.drew _
  have agC:∀b,b<w.heap.size->(w.drew.alloc (.cells jb te)).heap[b]?=w.heap[b]?:=λb hb=>heap_alloc_old w.drew _ b hb
  have tI:jb.toList.take ((xs++ys).length*e.size)=SU++news:=by
   show(SU.toArray++news.toArray++Builtin.zeroCells z.cells (nc-(xs.length+ys.length))).toList.take _=_;rw[Array.toList_append,Array.toList_append];have:(SU++news).length=(xs++ys).length*e.size:=by simp only[aq,hlo,Lk,cB]
   rw[<-this];exact List.take_left
  have ahd:∀b∈(fps++zK).flatten,b<w.heap.size:=by intro b hb;rw[dR,aA]at hb;exact gB b (by rcases hb with hb|hb;exact bt _ (qs b hb);exact bk _ hb)
  refine⟨_,_,hw',w.heap.size::(fps++zK).flatten,dX,?_,?_,?_,?_,?_,?_⟩
  ·have:=Ya (hw:=hw') (o0:=0) (xs:=xs++ys) (cap:=nc) UD (by intro j _;simp) (by rw[cl];exact aob) (by simp;omega) (by simp[hw']) (fps:=fps++zK) (by rw[eG,tI];refine(Sk.append Fo).mono (λb hb=>?_);have gQ:=ahd b hb;exact⟨agC b gQ,by simp[hw',gJ gQ]⟩)
   rw[aq]at this
   exact this
  ·exact(Fr.drew _ w).trans (Fr.alloc _ _ _) (λb _ hh=>hh)
  ·intro b hb _;simp[hw',gJ hb]
  ·intro b o x ho hx
   have hb:b<w.heap.size:=World.block_lt_of_cell? w _ hx
   exact⟨by simp[hw',gJ hb];exact ho,by rw[World.cell?_of_block (a:=⟨b,o,none⟩) (agC b hb)];exact hx⟩
  ·refine dj.2 ⟨λhm=>nv _ (ahd _ hm),?_⟩
   rw[dR];exact aou
  ·intro b hb
   rcases cg.1 hb with rfl|hb
   ·exact⟨by simp,.inr (.inr (aU _))⟩
   ·have gQ:=ahd b hb
    refine⟨by simp;omega,?_⟩
    rw[dR,aA]at hb
    rcases hb with hb|hb
    ·exact .inl (qs b hb)
    ·exact .inr (.inl hb)
 obtain⟨vv,hvv,ho⟩:=id fU;simp at hvv;subst hvv;rcases ho with⟨⟨ad,rfl⟩,rfl,rfl⟩|⟨b,o0,cap,arr,T,fr,fps,rfl,hb,tw,hs,hc,hh,rfl,hl,ho⟩;have aok:∀w1:World,(Builtin.firstCells e.size ([]:au e.D).length (.slice ad 0 0)).run P w1=.ok ([]:ie).toArray w1:=by intro w1;cases ad with|none=>simp[Builtin.firstCells]|some ad=>exact run_firstCells_some (P:=P) w1 e.size 0 ad 0 0 [] (by simp) (λj x hj=>by simp at hj)
 by_cases hm:ys.length=0;have hy:ys=[]:=ca hm;subst hy;refine⟨.slice ad 0 0,w,hw,[],?_,⟨_,rfl,.inl ⟨⟨_,rfl⟩,rfl,rfl⟩⟩,Fr.refl _ _,λ_ _ _=>rfl,λ_ _ _ ho hx=>⟨ho,hx⟩,by simp,by simp⟩;simp only[Builtin.append_];simp only[underlying,Sem.run_bind,run_program,ht,WB,Result.andThen_ok,Sem.run_pure,sizeOf,typeInfo,Db,uq,List.getElem?_toArray,cz,eH,hlen,aX,cc,bS,cp];simp only[ef]at Sm;have aiw:news=[]:=ca (by rw[Lk];simp);subst aiw;simp[Sm];cases ad<;>simp[storeCells];refine grow [] 0 [] (λw1 _=>aok w1) ⟨ad,by simp⟩ (by simp;omega) (kH.nil _ _ _) (by simpa using Ft) (by simp);have Sk:=KG hs hc hl ho;have hln:o0+xs.length*e.size<=arr.size:=by rw[hs];exact Nat.add_le_add_left (cO _ hc) _
 have hol:((arr.toList.drop o0).take (xs.length*e.size)).length=xs.length*e.size:=Sk.1;by_cases adv:xs.length+ys.length<=cap;have gy:o0+xs.length*e.size+news.length<=arr.size:=by rw[Lk,hs,fu,<-cB];exact Nat.add_le_add_left (cO _ adv) _
 have lE:=xl P b (o0+xs.length*e.size) T fr news 0 w arr hb tw (by simpa using gy) Fo.ni;simp only[eh]at lE;have dX:(Builtin.append_ #[t,t'] ty #[.slice (some ⟨b,o0,none⟩) xs.length cap,u]).run P w=.ok (.slice (some ⟨b,o0,none⟩) (xs.length+ys.length) cap) (vi w b (eC arr (o0+xs.length*e.size) news) T fr):=by simp only[Builtin.append_];simp only[underlying,Sem.run_bind,run_program,ht,WB,Result.andThen_ok,Sem.run_pure,sizeOf,typeInfo,Db,uq,List.getElem?_toArray,cz,eH,hlen,aX,cc,bS,cp,adv,Sm,nu,lE]
 have G5:=mc hb;rw[List.cons_append]at Ft;have xx:b∉fps.flatten++zK.flatten:=(dj.1 Ft).1;let hw':Nat->Nat:=λc=>if c=b then o0+(xs++ys).length*e.size else hw c
 refine⟨_,_,hw',b::(fps++zK).flatten,dX,?_,?_,?_,?_,?_,?_⟩;have tI:((eC arr (o0+xs.length*e.size) news).toList.drop o0).take ((xs++ys).length*e.size)=(arr.toList.drop o0).take (xs.length*e.size)++news:=by
  have h2:((arr.toList.drop o0).take (xs.length*e.size)++news).length=(xs++ys).length*e.size:=by simp only[aq,hol,Lk,cB]
  have h3:(xs++ys).length*e.size=xs.length*e.size+news.length:=by rw[aq,cB,Lk]
  apply cS;intro j;rw[ju];by_cases hj:j<(xs++ys).length*e.size;rw[aF hj,zw gy];by_cases h1:j<xs.length*e.size;rw[mQ,bH (by omega),ju,aF h1];rw[zip,bz (by omega),hol];congr 1;omega;rw[aH hj,bJ (by omega)]
 have:=Ya (hw:=hw') (w:=vi w b (eC arr (o0+xs.length*e.size) news) T fr) (xs:=xs++ys) (cap:=cap) (fps:=fps++zK) (yb G5) (λj hj=>tw j (by rwa[iz]at hj)) (by rw[iz];exact hs) (by simp;omega) (by simp[hw']) (by
  rw[tI];refine(Sk.append Fo).mono (λc Bw=>?_);have DT:c≠b:=by rintro rfl;exact xx (by rwa[dR]at Bw)
  exact⟨mP DT,by simp[hw',DT]⟩)
 rw[aq]at this;exact this;exact⟨rfl,rfl,rfl,by rw[lM];exact aU _,λc _ Bw=>mP (λe=>Bw (by simp[e]))⟩;intro c _ Bw;have DT:c≠b:=λe=>Bw (by simp[e]);simp[hw',DT];intro c o x L5 hx;by_cases hcb:c=b;subst hcb;rw[hh]at L5;refine⟨?_,?_⟩;simp only[hw',cp,aq,cB];omega;rw[pz (yb G5),<-cm,zw gy,mQ,cm,<-pz hb];exact hx;exact⟨by simp[hw',hcb];exact L5,by rw[World.cell?_of_block (a:=⟨c,o,none⟩) (mP hcb)];exact hx⟩;refine dj.2 ⟨by rw[dR];exact xx,?_⟩;rw[dR];exact(dj.1 Ft).2;intro c Bw;rw[lM];rcases cg.1 Bw with rfl|Bw;exact⟨G5,.inl (by simp)⟩;rw[dR,aA]at Bw;rcases Bw with Bw|Bw;exact⟨gB c (by simp[Bw]),.inl (by simp[Bw])⟩;exact⟨gB c (by simp[Bw]),.inr (.inl Bw)⟩;refine grow ((arr.toList.drop o0).take (xs.length*e.size)) cap fps (λw1 hw1=>?_) ⟨_,rfl⟩ (by omega) Sk ?_ (λc Bw=>by simp[Bw]);refine run_firstCells_some (P:=P) w1 e.size xs.length ⟨b,o0,none⟩ xs.length cap _ hol (λj x hj=>?_);have hb1:w1.heap[b]?=some (.cells arr T fr):=by rw[hw1];exact hb
 rw[nu,pz hb1];rw[ju]at hj;split at hj;simpa using hj;cases hj;rw[List.cons_append]at Ft;exact(dj.1 Ft).2
def vz (w:World)(b o n:Nat):ie:=(List.range n).map λj=>(w.cell? ⟨b,o+j,none⟩).getD undef
theorem ZX {S:Nat->Nat->Prop}{u:Value}{ys:au e.D}(h:jn w S (.sl e) [u] ys)(hf:e.flat=true)(hw:Nat->Nat): ∃news,Src P w e.size u ys.length news/\kH hw w e news ys (List.replicate ys.length []):=by
 obtain⟨v,hv,h⟩:=h;simp at hv;subst hv;rcases h with⟨⟨ad,rfl⟩,rfl⟩|⟨b,o,cap,rfl,hc,h⟩;cases ad with|none=>exact⟨[],⟨λ_=>rfl,λ_ _=>rfl⟩,kH.nil _ _ _⟩|some ad=>exact⟨[],⟨λ_=>rfl,λw1 _=>run_firstCells_some (P:=P) w1 e.size 0 ad 0 0 [] (by simp) (λj x hj=>by simp at hj)⟩,kH.nil _ _ _⟩
 have C8:∀j,j<ys.length*e.size->∃x,w.cell? ⟨b,o+j,none⟩=some x:=by
  intro j hj;have hi:j/e.size<ys.length:=by rw[Nat.div_lt_iff_lt_mul e.size_pos];exact hj
  obtain⟨cs,Ki,hr⟩:=h (j/e.size) _ (al hi);have hm:j%e.size<cs.length:=by rw[jn.length hr];exact Nat.mod_lt _ e.size_pos
  have:=(Ki (j%e.size) _ (al hm)).2;rw[fu,Nat.mul_comm,Nat.div_add_mod]at this;exact⟨_,this⟩
 have gL:∀j x,(vz w b o (ys.length*e.size))[j]?=some x->w.cell? ⟨b,o+j,none⟩=some x:=by intro j x hx;simp only[vz,List.getElem?_map]at hx;rcases bQ j (ys.length*e.size)with hj|hj;rw[List.getElem?_range hj]at hx;obtain⟨y,hy⟩:=C8 j hj;simp[hy]at hx;rw[hy,hx];rw[bJ (by simpa using hj)]at hx;cases hx
 have hlen:(vz w b o (ys.length*e.size)).length=ys.length*e.size:=by simp[vz]
 refine⟨vz w b o (ys.length*e.size),⟨λ_=>rfl,λw1 hw1=>?_⟩,⟨hlen,by simp,λi y f hy hf'=>?_⟩⟩;refine run_firstCells_some (P:=P) w1 e.size ys.length ⟨b,o,none⟩ ys.length cap _ hlen (λj x hj=>?_);rw[nu];have:=gL j x hj;simpa[World.cell?,hw1]using this;have hi:i<ys.length:=(aE.1 hy).1;have EH:f=[]:=by rw[dp,aF hi]at hf';simpa using hf'.symm
 subst EH;obtain⟨cs,Ki,hr⟩:=h i y hy;have hm:(i+1)*e.size<=ys.length*e.size:=cO _ hi;rw[cB,eI]at hm;have e1:((vz w b o (ys.length*e.size)).drop (i*e.size)).take e.size=cs:=by
  apply cS;intro j;rw[ju];have hcl:=jn.length hr;split;rename_i hj;have hjc:j<cs.length:=by omega
  have hx:=(Ki j _ (al hjc)).2;have h2:(vz w b o (ys.length*e.size))[i*e.size+j]?=some cs[j]:=by simp only[vz,List.getElem?_map,List.getElem?_range (show i*e.size+j<ys.length*e.size by omega),dk];rw[<-fu,hx];rfl
  rw[h2,al hjc];rw[bJ (by omega)]
 rw[e1];exact Nn hr hf
theorem af9 {u:Value}{ys:au e.D}{fp:eo}(h:eP hw w (.sl e) [u] ys fp): ∃news zK,Src P w e.size u ys.length news/\kH hw w e news ys zK/\(∀b∈zK.flatten,b∈fp)/\(fp.Nodup->zK.flatten.Nodup):=by
 obtain⟨v,hv,h⟩:=h;simp at hv;subst hv;rcases h with⟨⟨ad,rfl⟩,rfl,rfl⟩|⟨b,o0,cap,arr,T,fr,fps,rfl,hb,tw,hs,hc,hh,rfl,hl,ho⟩;refine⟨[],[],⟨λ_=>rfl,λw1 _=>?_⟩,kH.nil _ _ _,by simp,by simp⟩;cases ad with|none=>rfl|some ad=>exact run_firstCells_some (P:=P) w1 e.size 0 ad 0 0 [] (by simp) (λj x hj=>by simp at hj)
 have Sk:=KG hs hc hl ho;refine⟨_,fps,⟨λ_=>rfl,λw1 hw1=>?_⟩,Sk,λc Bw=>by simp[Bw],λhn=>(dj.1 hn).2⟩;refine run_firstCells_some (P:=P) w1 e.size ys.length ⟨b,o0,none⟩ ys.length cap _ Sk.1 (λj x hj=>?_);have hb1:w1.heap[b]?=some (.cells arr T fr):=by rw[hw1];exact hb
 rw[nu,pz hb1];rw[ju]at hj;split at hj;simpa using hj;cases hj
theorem aga (s:au UInt8)(hw:Nat->Nat):∃news,Src P w (CT.size (.int .u8)) (.string ⟨s.toArray⟩) (dq s).length news/\kH hw w (.int .u8) news (dq s) (List.replicate (dq s).length []):=by
 have hl:(dq s).length=s.length:=by simp[dq]
 refine⟨(dq s).map (Value.int .u8),⟨λw1=>by simp[Builtin.lenOf,yB,hl],λw1 _=>?_⟩,⟨by simp[CT.size],by simp,λi y f hy hf=>?_⟩⟩;have:(ByteArray.mk s.toArray).extract 0 s.length=ByteArray.mk s.toArray:=by rw[extract_mk];simp
 simp[Builtin.firstCells,this,dq];have hi:i<(dq s).length:=(aE.1 hy).1;have hf':f=[]:=by rw[dp,aF hi]at hf;simpa using hf.symm
 subst hf';refine⟨?_,rfl⟩;apply cS;intro j;rw[ju];simp only[CT.size,nw];cases j with|zero=>simp[hy]|succ j=>simp
theorem T6 {o:Oper}{s x:Operand}{t t':TypeId}(ho:o.op=.call {callee:=.builtin .append,args:=#[s,x],argTypes:=#[t,t']}){v:Value}{w':World}(h:(Builtin.append_ #[t,t'] o.type #[a.eval s,a.eval x]).run P w=.ok v w'):(execOp a.eval o).run P w=.ok (.value v) w':=by
 have e1:(#[s,x]:Array Operand).map a.eval=#[a.eval s,a.eval x]:=by simp
 simp only[execOp,ho,resolve,e1,Sem.run_bind,Sem.run_pure,Result.andThen_ok,invoke,builtin];show((Builtin.append_ #[t,t'] o.type #[a.eval s,a.eval x]).run P w).andThen _=_;rw[h];rfl
theorem TO {E:Env}(hE:jA P E.ty){o:Oper}{args:Array Operand}{ts:Array TypeId}(ho:o.op=.call {callee:=.builtin .append,args,argTypes:=ts})(h:oz C st a w){K:AS->ax R}(hk:yd E o ts.toList args.toList st K=some r):mW P C o a w K r:=by
 obtain⟨g,hg⟩:=h;unfold yd at hk;split at hk;rename_i t t' s x ur fy;have ea:args=#[s,x]:=by apply eO;simpa using fy
 have et:ts=#[t,t']:=by apply eO;simpa using ur
 subst ea;subst et;split at hk;rename_i tag e xs st1 Su;obtain⟨g1,hg1⟩:=hg.take s;rw[Su]at hg1;simp only[bO]at hg1;obtain⟨g2,HM⟩:=hg1.take x
 have fin:∀(u:AV)(st2:AS),st1.take x=(u,st2)->dN C g2 st2 a w [(a.eval s,.val false [.sl (.own tag) e xs]),(a.eval x,u)]->∀(ys:au e.D)(news:ie)(zK:au eo)(fq:eo),
  fF (cQ C g2 st2 w) (a.eval x) u fq->(∀b∈fq,g2.ej b=some (.hand 1))->E.sl t=some e->∀dt,P.underlying t'=some dt->(∀k,dt≠ .int k)->
  Src P w e.size (a.eval x) ys.length news->kH g2.hw w e news ys zK->(∀b∈zK.flatten,b∈fq)->zK.flatten.Nodup->xs.length+ys.length<=1073741824->
  K (st2.qt o.dst e (xs++ys))=some r->mW P C o a w K r:=by
  intro u st2 _ HM ys news zK fq _ hlq hT dt hdt aof IM Fo qs Ft G6 So
  obtain⟨fp,hrs,aow,adn⟩:=HM.hands 0 _ _ rfl
  have fU:=(ew hrs).1
  obtain⟨te,hu,he⟩:=FU hE hT
  have gB:∀b∈fp++zK.flatten,b<w.heap.size:=by intro b hb;rcases aA.1 hb with hb|hb;exact(HM.fR b _ (adn b hb)).1;exact(HM.fR b _ (hlq b (qs b hb))).1
  have aos:(fp++zK.flatten).Nodup:=by refine aJ.2 ⟨aow,Ft,?_⟩;rintro b hb c hc rfl;have h1:=adn b hb;rw[hlq b (qs b hc)]at h1;cases h1
  obtain⟨v',w',hw',jL,dX,De,jz,Gs,IK,Sp,Kj⟩:=WQ (ty:=o.type) hu he hdt aof fU IM Fo gB aos G6
  refine⟨v',w',_,.inl (T6 ho dX),?_,So⟩
  refine HM.Oq o.dst (hw':=hw') (fp:=jL) ⟨jz.os,jz.tape,jz.output,jz.size,λb hb hh=>jz.block b hb (λhm=>hh (by rw[adn b hm];rfl))⟩ ?_ IK De Sp ?_
  ·intro b y hb hh
   refine Gs b (HM.fR b y hb).1 (λhm=>hh ?_)
   rw[<-hb,adn b hm];rfl
  ·intro b hb
   obtain⟨h1,h2⟩:=Kj b hb
   refine⟨h1,?_⟩
   rcases h2 with h2|h2|h2
   ·exact .inl (by rw[adn b h2];rfl)
   ·exact .inl (by rw[hlq b (qs b h2)];rfl)
   ·exact .inr h2
 split at hk;rename_i fl e' ys st2 IP;split at hk;rename_i hee;subst hee;split at hk;rename_i hc;obtain⟨hT,hT',hgv⟩:=hc;unfold room at hk;split at hk;rename_i G6;rw[IP]at HM;have Xp:dN C g2 st2 a w [(a.eval s,.val false [.sl (.own tag) e' xs]),(a.eval x,.val false [.sl fl e' ys])]:=HM;obtain⟨fq,UH,hnq,hlq⟩:=Xp.hands 1 _ _ rfl;obtain⟨te',Xt,_⟩:=FU hE hT';have zM:st2.ep=st.ep:=by have h1:= @Ts st s;have h2:= @Ts st1 x;rw[Su]at h1;rw[IP]at h2;exact h2.trans h1
 have hcx:=ew UH;cases fl with
 |nest _ _ _ _ _ _=>simp[rj.qz]at hgv
 |part _ _ _ _=>simp[rj.qz]at hgv
 |eY _ _ _=>simp[rj.qz]at hgv
 |own tg=>obtain⟨news,zK,IM,Fo,qs,Ft⟩:=af9 (P:=P) hcx.1;exact fin _ st2 IP Xp ys news zK fq UH hlq hT _ Xt (by simp) IM Fo qs (Ft hnq) G6 hk
 |arg _=>obtain⟨news,IM,Fo⟩:=ZX (P:=P) hcx.2 (by simpa[rj.qz]using hgv) g2.hw;exact fin _ st2 IP Xp ys news _ fq UH hlq hT _ Xt (by simp) IM Fo (by simp) (by simp) G6 hk
 |loc ep pv=>
  simp only[rj.qz,ah,bw]at hgv;have aoi:ep=(cQ C g2 st2 w).ep:=by show ep=st2.ep;rw[zM];exact hgv.1
  obtain⟨news,IM,Fo⟩:=ZX (P:=P) (hcx.2.2.2.1 aoi) hgv.2 g2.hw;exact fin _ st2 IP Xp ys news _ fq UH hlq hT _ Xt (by simp) IM Fo (by simp) (by simp) G6 hk
 cases hk;cases hk;cases hk;rename_i s0 st2 IP;split at hk;rename_i hee;subst hee;split at hk;rename_i hc;obtain⟨hT,hT'⟩:=hc;unfold room at hk;split at hk;rename_i G6;rw[IP]at HM;have Xp:dN C g2 st2 a w [(a.eval s,.val false [.sl (.own tag) (.int .u8) xs]),(a.eval x,.val false [.str s0])]:=HM;obtain⟨fq,UH,hnq,hlq⟩:=Xp.hands 1 _ _ rfl;have hcx:=ew UH;obtain⟨news,IM,Fo⟩:=aga (P:=P) (w:=w) s0 g2.hw;rw[<-hcx.1]at IM;have hl:(dq s0).length=s0.length:=by simp[dq]
 exact fin _ st2 IP Xp (dq s0) news _ fq UH hlq hT _ (Tn hE hT') (by simp) IM Fo (by simp) (by simp) (by rw[hl];exact G6) hk;cases hk;cases hk;cases hk;cases hk;cases hk;cases hk
end Go.Dn
