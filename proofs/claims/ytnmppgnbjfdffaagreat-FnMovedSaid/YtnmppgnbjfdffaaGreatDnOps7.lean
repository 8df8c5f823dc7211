import Derived.Test.YtnmppgnbjfdffaaGreatDnOps6
/- Part 7: append. -/
namespace Go.Dn
open Go.RowKit
variable {P:Program} {C:Ctx} {st:AS} {a:Act} {w:World} {R:Type} {r:R}
variable {e:CT} {hw:Nat->Nat}
structure Src (P:Program) (w:World) (size:Nat) (u:Value) (m:Nat) (news:List Value):Prop where
 len:∀w1:World,(Builtin.lenOf u).run P w1=.ok m w1
 first:∀w1:World,w1.heap=w.heap->(Builtin.firstCells size m u).run P w1=.ok news.toArray w1
theorem TS {t t' ty te:TypeId}(ht:P.underlying t=some (.slice te))(he:JF P te e){dt:TypeDesc}(TL:P.underlying t'=some dt)(hdt:∀k,dt≠ .int k){v u:Value}{xs ys:aw e.D}{fp:fw}{news:iq}{wM:aw fw}(gE:ff hw w (.sl e) [v] xs fp)(FM:Src P w e.size u ys.length news)(Cr:jV hw w e news ys wM)(gQ:∀b∈fp++wM.flatten,b<w.heap.size)(Dq:(fp++wM.flatten).Nodup)(DZ:xs.length+ys.length<=1073741824): ∃v' w' hw' jK,(Builtin.append_ #[t,t'] ty #[v,u]).run P w=.ok v' w'/\ff hw' w' (.sl e) [v'] (xs++ys) jK/\Fr (λb=>b∈fp) w w'/\(∀b,b<w.heap.size->b∉fp->hw' b=hw b)/\ (∀b o x,o<hw b->w.cell? ⟨b,o,none⟩=some x->o<hw' b/\w'.cell? ⟨b,o,none⟩=some x)/\jK.Nodup/\∀b∈jK,b<w'.heap.size/\(b∈fp\/b∈wM.flatten\/w.heap.size<=b):=by
 obtain⟨⟨inf,z,Al,ti,hby,hz,hzc⟩,_⟩:=he;have hzs:z.cells.size=e.size:=by rw[<-oB e,<-hzc];simp
 have Yx:=e.size_pos;have hnz:(match dt with| .int _=>true|_=>false)=false:=by cases dt<;>simp;exact absurd rfl (hdt _)
 have Pf:=FM.first w rfl
 have aeC:=FM.first w.drew rfl
 have hlen:=FM.len;have Im:=Cr.1;have h63:¬((xs.length+ys.length:Nat):Int)>IntKind.i64.max:=by
  have:IntKind.i64.max=9223372036854775807:=by decide
  omega
 have grow:∀(PM:iq)(Lt:Nat)(fps:aw fw),(∀w1:World,w1.heap=w.heap->(Builtin.firstCells e.size xs.length v).run P w1=.ok PM.toArray w1)->(∃base,v=.slice base xs.length Lt)->Lt<xs.length+ys.length->
  jV hw w e PM xs fps->(fps.flatten++wM.flatten).Nodup->(∀b∈fps.flatten,b∈fp)->
  ∃v' w' hw' jK,(Builtin.append_ #[t,t'] ty #[v,u]).run P w=.ok v' w'/\ff hw' w' (.sl e) [v'] (xs++ys) jK/\Fr (λb=>b∈fp) w w'/\(∀b,b<w.heap.size->b∉fp->hw' b=hw b)/\
  (∀b o x,o<hw b->w.cell? ⟨b,o,none⟩=some x->o<hw' b/\w'.cell? ⟨b,o,none⟩=some x)/\jK.Nodup/\∀b∈jK,b<w'.heap.size/\(b∈fp\/b∈wM.flatten\/w.heap.size<=b):=by
  intro PM Lt fps hold aiQ FG Pd ant oP
  obtain⟨base,rfl⟩:=aiQ
  have ajb:=hold w.drew rfl
  have gw:Builtin.nextslicecap (xs.length+ys.length) Lt*inf.bytes<=281474976710656:=by refine growslice_fits FG ?_;have:(xs.length+ys.length)*inf.bytes<=1073741824*65536:=Nat.mul_le_mul DZ hby;omega
  have ee:(Builtin.append_ #[t,t'] ty #[.slice base xs.length Lt,u]).run P w=
   .ok (.slice (some ⟨w.heap.size,0,none⟩) (xs.length+ys.length) (grownCap w (xs.length+ys.length) Lt te))
    (w.drew.alloc (.cells (PM.toArray++news.toArray++Builtin.zeroCells z.cells (grownCap w (xs.length+ys.length) Lt te-(xs.length+ys.length))) te)):=by
   have h1:¬(xs.length+ys.length<=Lt):=by omega
   have h2:¬(281474976710656<Builtin.nextslicecap (xs.length+ys.length) Lt*inf.bytes):=by omega
   simp only[Builtin.append_]
   simp only[underlying,Sem.run_bind,run_program,ht,TL,Result.andThen_ok,Sem.run_pure,sizeOf,typeInfo,Al,ti,List.getElem?_toArray,cr,dW,hlen,aK,aW,bU,
    h1,h63,false_and,bN,zeroValue,newRow]
   rw[aH (by simpa using h2)]
   simp only[Sem.run_bind,run_choose,Question.forced,aW,bU,Result.andThen_ok,run_program,Al,run_askRoom,Sem.run_pure]
   have e1:=ajb
   have e2:=aeC
   simp only[World.drew]at e1 e2
   simp only[e1,e2,Result.andThen_ok,hz,Sem.run_pure,run_newObj]
   rfl
  have yP:=grownCap_ge w (xs.length+ys.length) Lt te
  generalize grownCap w (xs.length+ys.length) Lt te=nc at ee yP
  have anF:(Builtin.zeroCells z.cells (nc-(xs.length+ys.length))).size=(nc-(xs.length+ys.length))*e.size:=by rw[size_zeroCells,hzs]
  let iJ:Array Value:=PM.toArray++news.toArray++Builtin.zeroCells z.cells (nc-(xs.length+ys.length))
  have hlo:=Pd.1
  have am9:iJ.size=nc*e.size:=by show(PM.toArray++news.toArray++Builtin.zeroCells z.cells (nc-(xs.length+ys.length))).size=_;rw[Array.size_append,Array.size_append,anF];simp only[List.size_toArray,hlo,Im,<-cy];congr 1;omega
  let hw':Nat->Nat:=λb=>if b=w.heap.size then(xs++ys).length*e.size else hw b
  have RH:(w.drew.alloc (.cells iJ te)).heap[w.heap.size]?=some (.cells iJ te (0,0)):=heap_alloc_new w.drew _
  have af6:∀b,b<w.heap.size->(w.drew.alloc (.cells iJ te)).heap[b]?=w.heap[b]?:=λb hb=>heap_alloc_old w.drew _ b hb
  have rk:iJ.toList.take ((xs++ys).length*e.size)=PM++news:=by
   show(PM.toArray++news.toArray++Builtin.zeroCells z.cells (nc-(xs.length+ys.length))).toList.take _=_;rw[Array.toList_append,Array.toList_append];have:(PM++news).length=(xs++ys).length*e.size:=by simp only[ai,hlo,Im,cy]
   rw[<-this];exact List.take_left
  have ag3:∀b∈(fps++wM).flatten,b<w.heap.size:=by intro b hb;rw[dV,ay]at hb;exact gQ b (by rcases hb with hb|hb;exact bt _ (oP b hb);exact bj _ hb)
  refine⟨_,_,hw',w.heap.size::(fps++wM).flatten,ee,?_,?_,?_,?_,?_,?_⟩
  ·have:=VO (hw:=hw') (o0:=0) (xs:=xs++ys) (cap:=nc) RH (by intro j _;simp) (by rw[ca];exact am9) (by simp;omega) (by simp[hw']) (fps:=fps++wM) (by rw[dP,rk];refine(Pd.append Cr).mono (λb hb=>?_);have gM:=ag3 b hb;exact⟨af6 b gM,by simp[hw',gH gM]⟩)
   rw[ai]at this
   exact this
  ·exact(Fr.drew _ w).trans (Fr.alloc _ _ _) (λb _ hh=>hh)
  ·intro b hb _;simp[hw',gH hb]
  ·intro b o x ho hx
   have hb:b<w.heap.size:=World.block_lt_of_cell? w _ hx
   exact⟨by simp[hw',gH hb];exact ho,by rw[World.cell?_of_block (a:=⟨b,o,none⟩) (af6 b hb)];exact hx⟩
  ·refine db.2 ⟨λhm=>Nat.lt_irrefl _ (ag3 _ hm),?_⟩
   rw[dV];exact ant
  ·intro b hb
   rcases bO.1 hb with rfl|hb
   ·exact⟨by simp,.inr (.inr (aU _))⟩
   ·have gM:=ag3 b hb
    refine⟨by simp;omega,?_⟩
    rw[dV,ay]at hb
    rcases hb with hb|hb
    ·exact .inl (oP b hb)
    ·exact .inr (.inl hb)
 obtain⟨vv,hvv,ho⟩:=id gE;simp at hvv;subst hvv;rcases ho with⟨⟨ad,rfl⟩,rfl,rfl⟩|⟨b,o0,cap,arr,T,fr,fps,rfl,hb,qZ,hs,hc,hh,rfl,hl,ho⟩;have anj:∀w1:World,(Builtin.firstCells e.size ([]:aw e.D).length (.slice ad 0 0)).run P w1=.ok ([]:iq).toArray w1:=by intro w1;cases ad with|none=>simp[Builtin.firstCells]|some ad=>exact run_firstCells_some (P:=P) w1 e.size 0 ad 0 0 [] (by simp) (λj x hj=>by simp at hj)
 by_cases hm:ys.length=0;have hy:ys=[]:=bS hm;subst hy;refine⟨.slice ad 0 0,w,hw,[],?_,⟨_,rfl,.inl ⟨⟨_,rfl⟩,rfl,rfl⟩⟩,Fr.refl _ _,λ_ _ _=>rfl,λ_ _ _ ho hx=>⟨ho,hx⟩,by simp,by simp⟩;simp only[Builtin.append_];simp only[underlying,Sem.run_bind,run_program,ht,TL,Result.andThen_ok,Sem.run_pure,sizeOf,typeInfo,Al,ti,List.getElem?_toArray,cr,dW,hlen,aW,bU,bF,bN];simp only[ef]at Pf;have ai8:news=[]:=bS (by rw[Im];simp);subst ai8;simp[Pf];cases ad<;>simp[storeCells];refine grow [] 0 [] (λw1 _=>anj w1) ⟨ad,by simp⟩ (by simp;omega) (jV.nil _ _ _) (by simpa using Dq) (by simp);have Pd:=HD hs hc hl ho;have hln:o0+xs.length*e.size<=arr.size:=by rw[hs];exact Nat.add_le_add_left (cu _ hc) _
 have hol:((arr.toList.drop o0).take (xs.length*e.size)).length=xs.length*e.size:=Pd.1;by_cases ace:xs.length+ys.length<=cap;have gw:o0+xs.length*e.size+news.length<=arr.size:=by rw[Im,hs,fC,<-cy];exact Nat.add_le_add_left (cu _ ace) _
 have mi:=uD P b (o0+xs.length*e.size) T fr news 0 w arr hb qZ (by simpa using gw) Cr.my;simp only[dT]at mi;have ee:(Builtin.append_ #[t,t'] ty #[.slice (some ⟨b,o0,none⟩) xs.length cap,u]).run P w=.ok (.slice (some ⟨b,o0,none⟩) (xs.length+ys.length) cap) (sN w b (eC arr (o0+xs.length*e.size) news) T fr):=by simp only[Builtin.append_];simp only[underlying,Sem.run_bind,run_program,ht,TL,Result.andThen_ok,Sem.run_pure,sizeOf,typeInfo,Al,ti,List.getElem?_toArray,cr,dW,hlen,aW,bU,bF,bN,ace,Pf,mF,mi]
 have DY:=lB hb;rw[List.cons_append]at Dq;have uJ:b∉fps.flatten++wM.flatten:=(db.1 Dq).1;let hw':Nat->Nat:=λc=>if c=b then o0+(xs++ys).length*e.size else hw c
 refine⟨_,_,hw',b::(fps++wM).flatten,ee,?_,?_,?_,?_,?_,?_⟩;have rk:((eC arr (o0+xs.length*e.size) news).toList.drop o0).take ((xs++ys).length*e.size)=(arr.toList.drop o0).take (xs.length*e.size)++news:=by
  have h2:((arr.toList.drop o0).take (xs.length*e.size)++news).length=(xs++ys).length*e.size:=by simp only[ai,hol,Im,cy]
  have h3:(xs++ys).length*e.size=xs.length*e.size+news.length:=by rw[ai,cy,Im]
  apply cn;intro j;rw[iW];by_cases hj:j<(xs++ys).length*e.size;rw[aE hj,wA gw];by_cases h1:j<xs.length*e.size;rw[lZ,bz (by omega),iW,aE h1];rw[zip,bq (by omega),hol];congr 1;omega;rw[aH hj,bh (by omega)]
 have:=VO (hw:=hw') (w:=sN w b (eC arr (o0+xs.length*e.size) news) T fr) (xs:=xs++ys) (cap:=cap) (fps:=fps++wM) (vk DY) (λj hj=>qZ j (by rwa[ij]at hj)) (by rw[ij];exact hs) (by simp;omega) (by simp[hw']) (by
  rw[rk];refine(Pd.append Cr).mono (λc xg=>?_);have AY:c≠b:=by rintro rfl;exact uJ (by rwa[dV]at xg)
  exact⟨lW AY,by simp[hw',AY]⟩)
 rw[ai]at this;exact this;exact⟨rfl,rfl,rfl,by rw[kY];exact aU _,λc _ xg=>lW (λe=>xg (by simp[e]))⟩;intro c _ xg;have AY:c≠b:=λe=>xg (by simp[e]);simp[hw',AY];intro c o x I9 hx;by_cases hcb:c=b;subst hcb;rw[hh]at I9;refine⟨?_,?_⟩;simp only[hw',bN,ai,cy];omega;rw[nU (vk DY),<-cj,wA gw,lZ,cj,<-nU hb];exact hx;exact⟨by simp[hw',hcb];exact I9,by rw[World.cell?_of_block (a:=⟨c,o,none⟩) (lW hcb)];exact hx⟩;refine db.2 ⟨by rw[dV];exact uJ,?_⟩;rw[dV];exact(db.1 Dq).2;intro c xg;rw[kY];rcases bO.1 xg with rfl|xg;exact⟨DY,.inl (by simp)⟩;rw[dV,ay]at xg;rcases xg with xg|xg;exact⟨gQ c (by simp[xg]),.inl (by simp[xg])⟩;exact⟨gQ c (by simp[xg]),.inr (.inl xg)⟩;refine grow ((arr.toList.drop o0).take (xs.length*e.size)) cap fps (λw1 hw1=>?_) ⟨_,rfl⟩ (by omega) Pd ?_ (λc xg=>by simp[xg]);refine run_firstCells_some (P:=P) w1 e.size xs.length ⟨b,o0,none⟩ xs.length cap _ hol (λj x hj=>?_);have hb1:w1.heap[b]?=some (.cells arr T fr):=by rw[hw1];exact hb
 rw[mF,nU hb1];rw[iW]at hj;split at hj;simpa using hj;cases hj;rw[List.cons_append]at Dq;exact(db.1 Dq).2
def sY (w:World)(b o n:Nat):iq:=(List.range n).map λj=>(w.cell? ⟨b,o+j,none⟩).getD undef
theorem XF {S:Nat->Nat->Prop}{u:Value}{ys:aw e.D}(h:iT w S (.sl e) [u] ys)(hf:e.flat=true)(hw:Nat->Nat): ∃news,Src P w e.size u ys.length news/\jV hw w e news ys (List.replicate ys.length []):=by
 obtain⟨v,hv,h⟩:=h;simp at hv;subst hv;rcases h with⟨⟨ad,rfl⟩,rfl⟩|⟨b,o,cap,rfl,hc,h⟩;cases ad with|none=>exact⟨[],⟨λ_=>rfl,λ_ _=>rfl⟩,jV.nil _ _ _⟩|some ad=>exact⟨[],⟨λ_=>rfl,λw1 _=>run_firstCells_some (P:=P) w1 e.size 0 ad 0 0 [] (by simp) (λj x hj=>by simp at hj)⟩,jV.nil _ _ _⟩
 have Ai:∀j,j<ys.length*e.size->∃x,w.cell? ⟨b,o+j,none⟩=some x:=by
  intro j hj;have hi:j/e.size<ys.length:=by rw[Nat.div_lt_iff_lt_mul e.size_pos];exact hj
  obtain⟨cs,Hd,hr⟩:=h (j/e.size) _ (al hi);have hm:j%e.size<cs.length:=by rw[iT.length hr];exact Nat.mod_lt _ e.size_pos
  have:=(Hd (j%e.size) _ (al hm)).2;rw[fC,Nat.mul_comm,Nat.div_add_mod]at this;exact⟨_,this⟩
 have gI:∀j x,(sY w b o (ys.length*e.size))[j]?=some x->w.cell? ⟨b,o+j,none⟩=some x:=by intro j x hx;simp only[sY,List.getElem?_map]at hx;rcases cc j (ys.length*e.size)with hj|hj;rw[List.getElem?_range hj]at hx;obtain⟨y,hy⟩:=Ai j hj;simp[hy]at hx;rw[hy,hx];rw[bh (by simpa using hj)]at hx;cases hx
 have hlen:(sY w b o (ys.length*e.size)).length=ys.length*e.size:=by simp[sY]
 refine⟨sY w b o (ys.length*e.size),⟨λ_=>rfl,λw1 hw1=>?_⟩,⟨hlen,by simp,λi y f hy hf'=>?_⟩⟩;refine run_firstCells_some (P:=P) w1 e.size ys.length ⟨b,o,none⟩ ys.length cap _ hlen (λj x hj=>?_);rw[mF];have:=gI j x hj;simpa[World.cell?,hw1]using this;have hi:i<ys.length:=(aF.1 hy).1;have AW:f=[]:=by rw[dX,aE hi]at hf';simpa using hf'.symm
 subst AW;obtain⟨cs,Hd,hr⟩:=h i y hy;have hm:(i+1)*e.size<=ys.length*e.size:=cu _ hi;rw[cy,fb]at hm;have e1:((sY w b o (ys.length*e.size)).drop (i*e.size)).take e.size=cs:=by
  apply cn;intro j;rw[iW];have hcl:=iT.length hr;split;rename_i hj;have hjc:j<cs.length:=by omega
  have hx:=(Hd j _ (al hjc)).2;have h2:(sY w b o (ys.length*e.size))[i*e.size+j]?=some cs[j]:=by simp only[sY,List.getElem?_map,List.getElem?_range (show i*e.size+j<ys.length*e.size by omega),dc];rw[<-fC,hx];rfl
  rw[h2,al hjc];rw[bh (by omega)]
 rw[e1];exact Kf hr hf
theorem afq {u:Value}{ys:aw e.D}{fp:fw}(h:ff hw w (.sl e) [u] ys fp): ∃news wM,Src P w e.size u ys.length news/\jV hw w e news ys wM/\(∀b∈wM.flatten,b∈fp)/\(fp.Nodup->wM.flatten.Nodup):=by
 obtain⟨v,hv,h⟩:=h;simp at hv;subst hv;rcases h with⟨⟨ad,rfl⟩,rfl,rfl⟩|⟨b,o0,cap,arr,T,fr,fps,rfl,hb,qZ,hs,hc,hh,rfl,hl,ho⟩;refine⟨[],[],⟨λ_=>rfl,λw1 _=>?_⟩,jV.nil _ _ _,by simp,by simp⟩;cases ad with|none=>rfl|some ad=>exact run_firstCells_some (P:=P) w1 e.size 0 ad 0 0 [] (by simp) (λj x hj=>by simp at hj)
 have Pd:=HD hs hc hl ho;refine⟨_,fps,⟨λ_=>rfl,λw1 hw1=>?_⟩,Pd,λc xg=>by simp[xg],λhn=>(db.1 hn).2⟩;refine run_firstCells_some (P:=P) w1 e.size ys.length ⟨b,o0,none⟩ ys.length cap _ Pd.1 (λj x hj=>?_);have hb1:w1.heap[b]?=some (.cells arr T fr):=by rw[hw1];exact hb
 rw[mF,nU hb1];rw[iW]at hj;split at hj;simpa using hj;cases hj
theorem afr (s:aw UInt8)(hw:Nat->Nat):∃news,Src P w (CT.size (.int .u8)) (.string ⟨s.toArray⟩) (dj s).length news/\jV hw w (.int .u8) news (dj s) (List.replicate (dj s).length []):=by
 have hl:(dj s).length=s.length:=by simp[dj]
 refine⟨(dj s).map (Value.int .u8),⟨λw1=>by simp[Builtin.lenOf,vO,hl],λw1 _=>?_⟩,⟨by simp[CT.size],by simp,λi y f hy hf=>?_⟩⟩;have:(ByteArray.mk s.toArray).extract 0 s.length=ByteArray.mk s.toArray:=by rw[extract_mk];simp
 simp[Builtin.firstCells,this,dj];have hi:i<(dj s).length:=(aF.1 hy).1;have hf':f=[]:=by rw[dX,aE hi]at hf;simpa using hf.symm
 subst hf';refine⟨?_,rfl⟩;apply cn;intro j;rw[iW];simp only[CT.size,mG];cases j with|zero=>simp[hy]|succ j=>simp
theorem Q5 {o:Oper}{s x:Operand}{t t':TypeId}(ho:o.op=.call {callee:=.builtin .append,args:=#[s,x],argTypes:=#[t,t']}){v:Value}{w':World}(h:(Builtin.append_ #[t,t'] o.type #[a.eval s,a.eval x]).run P w=.ok v w'):(execOp a.eval o).run P w=.ok (.value v) w':=by
 have e1:(#[s,x]:Array Operand).map a.eval=#[a.eval s,a.eval x]:=by simp
 simp only[execOp,ho,resolve,e1,Sem.run_bind,Sem.run_pure,Result.andThen_ok,invoke,builtin];show((Builtin.append_ #[t,t'] o.type #[a.eval s,a.eval x]).run P w).andThen _=_;rw[h];rfl
theorem QG {E:Env}(hE:ja P E.ty){o:Oper}{args:Array Operand}{ts:Array TypeId}(ho:o.op=.call {callee:=.builtin .append,args,argTypes:=ts})(h:np C st a w){K:AS->ax R}(hk:vo E o ts.toList args.toList st K=some r):ma P C o a w K r:=by
 obtain⟨g,hg⟩:=h;unfold vo at hk;split at hk;rename_i t t' s x rU fN;have ea:args=#[s,x]:=by apply eQ;simpa using fN
 have et:ts=#[t,t']:=by apply eQ;simpa using rU
 subst ea;subst et;split at hk;rename_i tag e xs st1 Pm;obtain⟨g1,hg1⟩:=hg.take s;rw[Pm]at hg1;simp only[cA]at hg1;obtain⟨g2,EH⟩:=hg1.take x
 have fin:∀(u:AV)(st2:AS),st1.take x=(u,st2)->dM C g2 st2 a w [(a.eval s,.val false [.sl (.own tag) e xs]),(a.eval x,u)]->∀(ys:aw e.D)(news:iq)(wM:aw fw)(fq:fw),
  fR (cH C g2 st2 w) (a.eval x) u fq->(∀b∈fq,g2.ej b=some (.hand 1))->E.sl t=some e->∀dt,P.underlying t'=some dt->(∀k,dt≠ .int k)->
  Src P w e.size (a.eval x) ys.length news->jV g2.hw w e news ys wM->(∀b∈wM.flatten,b∈fq)->wM.flatten.Nodup->xs.length+ys.length<=1073741824->
  K (st2.oQ o.dst e (xs++ys))=some r->ma P C o a w K r:=by
  intro u st2 _ EH ys news wM fq _ hlq hT dt hdt ane FM Cr oP Dq DZ Ph
  obtain⟨fp,hrs,anv,ab6⟩:=EH.hands 0 _ _ rfl
  have gE:=(ew hrs).1
  obtain⟨te,hu,he⟩:=CR hE hT
  have gQ:∀b∈fp++wM.flatten,b<w.heap.size:=by intro b hb;rcases ay.1 hb with hb|hb;exact(EH.fS b _ (ab6 b hb)).1;exact(EH.fS b _ (hlq b (oP b hb))).1
  have anr:(fp++wM.flatten).Nodup:=by refine aI.2 ⟨anv,Dq,?_⟩;rintro b hb c hc rfl;have h1:=ab6 b hb;rw[hlq b (oP b hc)]at h1;cases h1
  obtain⟨v',w',hw',jK,ee,FI,jf,Dp,FJ,Pj,He⟩:=TS (ty:=o.type) hu he hdt ane gE FM Cr gQ anr DZ
  refine⟨v',w',_,.inl (Q5 ho ee),?_,Ph⟩
  refine EH.Ln o.dst (hw':=hw') (fp:=jK) ⟨jf.os,jf.tape,jf.output,jf.size,λb hb hh=>jf.block b hb (λhm=>hh (by rw[ab6 b hm];rfl))⟩ ?_ FJ FI Pj ?_
  ·intro b y hb hh
   refine Dp b (EH.fS b y hb).1 (λhm=>hh ?_)
   rw[<-hb,ab6 b hm];rfl
  ·intro b hb
   obtain⟨h1,h2⟩:=He b hb
   refine⟨h1,?_⟩
   rcases h2 with h2|h2|h2
   ·exact .inl (by rw[ab6 b h2];rfl)
   ·exact .inl (by rw[hlq b (oP b h2)];rfl)
   ·exact .inr h2
 split at hk;rename_i fl e' ys st2 FN;split at hk;rename_i hee;subst hee;split at hk;rename_i hc;obtain⟨hT,hT',hgv⟩:=hc;unfold room at hk;split at hk;rename_i DZ;rw[FN]at EH;have UW:dM C g2 st2 a w [(a.eval s,.val false [.sl (.own tag) e' xs]),(a.eval x,.val false [.sl fl e' ys])]:=EH;obtain⟨fq,Yz,hnq,hlq⟩:=UW.hands 1 _ _ rfl;obtain⟨te',Pn,_⟩:=CR hE hT';have wN:st2.ep=st.ep:=by have h1:= @Qp st s;have h2:= @Qp st1 x;rw[Pm]at h1;rw[FN]at h2;exact h2.trans h1
 have hcx:=ew Yz;cases fl with
 |nest _ _ _ _ _ _=>simp[pE.pL]at hgv
 |part _ _ _ _=>simp[pE.pL]at hgv
 |fg _ _ _=>simp[pE.pL]at hgv
 |own tg=>obtain⟨news,wM,FM,Cr,oP,Dq⟩:=afq (P:=P) hcx.1;exact fin _ st2 FN UW ys news wM fq Yz hlq hT _ Pn (by simp) FM Cr oP (Dq hnq) DZ hk
 |arg _=>obtain⟨news,FM,Cr⟩:=XF (P:=P) hcx.2 (by simpa[pE.pL]using hgv) g2.hw;exact fin _ st2 FN UW ys news _ fq Yz hlq hT _ Pn (by simp) FM Cr (by simp) (by simp) DZ hk
 |loc ep pv=>
  simp only[pE.pL,ae,aS]at hgv;have anh:ep=(cH C g2 st2 w).ep:=by show ep=st2.ep;rw[wN];exact hgv.1
  obtain⟨news,FM,Cr⟩:=XF (P:=P) (hcx.2.2.2.1 anh) hgv.2 g2.hw;exact fin _ st2 FN UW ys news _ fq Yz hlq hT _ Pn (by simp) FM Cr (by simp) (by simp) DZ hk
 cases hk;cases hk;cases hk;rename_i s0 st2 FN;split at hk;rename_i hee;subst hee;split at hk;rename_i hc;obtain⟨hT,hT'⟩:=hc;unfold room at hk;split at hk;rename_i DZ;rw[FN]at EH;have UW:dM C g2 st2 a w [(a.eval s,.val false [.sl (.own tag) (.int .u8) xs]),(a.eval x,.val false [.str s0])]:=EH;obtain⟨fq,Yz,hnq,hlq⟩:=UW.hands 1 _ _ rfl;have hcx:=ew Yz;obtain⟨news,FM,Cr⟩:=afr (P:=P) (w:=w) s0 g2.hw;rw[<-hcx.1]at FM;have hl:(dj s0).length=s0.length:=by simp[dj]
 exact fin _ st2 FN UW (dj s0) news _ fq Yz hlq hT _ (Qj hE hT') (by simp) FM Cr (by simp) (by simp) (by rw[hl];exact DZ) hk;cases hk;cases hk;cases hk;cases hk;cases hk;cases hk
end Go.Dn
