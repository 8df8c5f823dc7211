import Derived.Test.YtinkcmefgciifaaGreatDnOps6
/- Part 7: append. -/
namespace Go.Dn
open Go.RowKit
variable {P:Program} {C:Ctx} {st:AS} {a:Act} {w:World} {R:Type} {r:R}
variable {e:CT} {hw:Nat->Nat}
structure Src (P:Program) (w:World) (size:Nat) (u:Value) (m:Nat) (news:List Value):Prop where
 len:∀w1:World,(Builtin.lenOf u).run P w1=.ok m w1
 first:∀w1:World,w1.heap=w.heap->(Builtin.firstCells size m u).run P w1=.ok news.toArray w1
theorem YS {t t' ty te:TypeId}(ht:P.underlying t=some (.slice te))(he:NM P te e){dt:TypeDesc}(YI:P.underlying t'=some dt)(hdt:∀k,dt≠ .int k){v u:Value}{xs ys:az e.D}{fp:gk}{news:jT}{Ab:az gk}(jl:gG hw w (.sl e) [v] xs fp)(Jg:Src P w e.size u ys.length news)(FV:md hw w e news ys Ab)(iz:∀b∈fp++Ab.flatten,b<w.heap.size)(GW:(fp++Ab.flatten).Nodup)(Hw:xs.length+ys.length<=1073741824): ∃v' w' hw' lT,(Builtin.append_ #[t,t'] ty #[v,u]).run P w=.ok v' w'/\gG hw' w' (.sl e) [v'] (xs++ys) lT/\Fr (λb=>b∈fp) w w'/\(∀b,b<w.heap.size->b∉fp->hw' b=hw b)/\ (∀b o x,o<hw b->w.cell? ⟨b,o,none⟩=some x->o<hw' b/\w'.cell? ⟨b,o,none⟩=some x)/\lT.Nodup/\∀b∈lT,b<w'.heap.size/\(b∈fp\/b∈Ab.flatten\/w.heap.size<=b):=by
 obtain⟨⟨inf,z,DJ,wq,hby,hz,hzc⟩,_⟩:=he;have hzs:z.cells.size=e.size:=by rw[<-rh e,<-hzc];simp
 have ady:=e.size_pos;have hnz:(match dt with| .int _=>true|_=>false)=false:=by cases dt<;>simp;exact absurd rfl (hdt _)
 have Ul:=Jg.first w rfl
 have ajw:=Jg.first w.drew rfl
 have hlen:=Jg.len;have L8:=FV.1;have h63:¬((xs.length+ys.length:Nat):Int)>IntKind.i64.max:=by
  have:IntKind.i64.max=9223372036854775807:=by decide
  omega
 have grow:∀(UH:jT)(P9:Nat)(fps:az gk),(∀w1:World,w1.heap=w.heap->(Builtin.firstCells e.size xs.length v).run P w1=.ok UH.toArray w1)->(∃base,v=.slice base xs.length P9)->P9<xs.length+ys.length->
  md hw w e UH xs fps->(fps.flatten++Ab.flatten).Nodup->(∀b∈fps.flatten,b∈fp)->
  ∃v' w' hw' lT,(Builtin.append_ #[t,t'] ty #[v,u]).run P w=.ok v' w'/\gG hw' w' (.sl e) [v'] (xs++ys) lT/\Fr (λb=>b∈fp) w w'/\(∀b,b<w.heap.size->b∉fp->hw' b=hw b)/\
  (∀b o x,o<hw b->w.cell? ⟨b,o,none⟩=some x->o<hw' b/\w'.cell? ⟨b,o,none⟩=some x)/\lT.Nodup/\∀b∈lT,b<w'.heap.size/\(b∈fp\/b∈Ab.flatten\/w.heap.size<=b):=by
  intro UH P9 fps hold anD Jb Uj asA rE
  obtain⟨base,rfl⟩:=anD
  have anY:=hold w.drew rfl
  have iW:Builtin.nextslicecap (xs.length+ys.length) P9*inf.bytes<=281474976710656:=by refine growslice_fits Jb ?_;have:(xs.length+ys.length)*inf.bytes<=1073741824*65536:=Nat.mul_le_mul Hw hby;omega
  have fG:(Builtin.append_ #[t,t'] ty #[.slice base xs.length P9,u]).run P w=
   .ok (.slice (some ⟨w.heap.size,0,none⟩) (xs.length+ys.length) (grownCap w (xs.length+ys.length) P9 te))
    (w.drew.alloc (.cells (UH.toArray++news.toArray++Builtin.zeroCells z.cells (grownCap w (xs.length+ys.length) P9 te-(xs.length+ys.length))) te)):=by
   have h1:¬(xs.length+ys.length<=P9):=by omega
   have h2:¬(281474976710656<Builtin.nextslicecap (xs.length+ys.length) P9*inf.bytes):=by omega
   simp only[Builtin.append_]
   simp only[underlying,Sem.run_bind,run_program,ht,YI,Result.andThen_ok,Sem.run_pure,sizeOf,typeInfo,DJ,wq,List.getElem?_toArray,cR,fW,hlen,aN,bj,cy,
    h1,h63,false_and,cr,zeroValue,newRow]
   rw[aI (by simpa using h2)]
   simp only[Sem.run_bind,run_choose,Question.forced,bj,cy,Result.andThen_ok,run_program,DJ,run_askRoom,Sem.run_pure]
   have e1:=anY
   have e2:=ajw
   simp only[World.drew]at e1 e2
   simp only[e1,e2,Result.andThen_ok,hz,Sem.run_pure,run_newObj]
   rfl
  have BC:=grownCap_ge w (xs.length+ys.length) P9 te
  generalize grownCap w (xs.length+ys.length) P9 te=nc at fG BC
  have asM:(Builtin.zeroCells z.cells (nc-(xs.length+ys.length))).size=(nc-(xs.length+ys.length))*e.size:=by rw[size_zeroCells,hzs]
  let kl:Array Value:=UH.toArray++news.toArray++Builtin.zeroCells z.cells (nc-(xs.length+ys.length))
  have hlo:=Uj.1
  have asg:kl.size=nc*e.size:=by show(UH.toArray++news.toArray++Builtin.zeroCells z.cells (nc-(xs.length+ys.length))).size=_;rw[Array.size_append,Array.size_append,asM];simp only[List.size_toArray,hlo,L8,<-df];congr 1;omega
  let hw':Nat->Nat:=λb=>if b=w.heap.size then(xs++ys).length*e.size else hw b
  have Wy:(w.drew.alloc (.cells kl te)).heap[w.heap.size]?=some (.cells kl te (0,0)):=heap_alloc_new w.drew _
  have akV:∀b,b<w.heap.size->(w.drew.alloc (.cells kl te)).heap[b]?=w.heap[b]?:=λb hb=>heap_alloc_old w.drew _ b hb
  have uz:kl.toList.take ((xs++ys).length*e.size)=UH++news:=by
   show(UH.toArray++news.toArray++Builtin.zeroCells z.cells (nc-(xs.length+ys.length))).toList.take _=_;rw[Array.toList_append,Array.toList_append];have:(UH++news).length=(xs++ys).length*e.size:=by simp only[aj,hlo,L8,df]
   rw[<-this];exact List.take_left
  have alO:∀b∈(fps++Ab).flatten,b<w.heap.size:=by intro b hb;rw[eJ,ay]at hb;exact iz b (by rcases hb with hb|hb;exact aU _ (rE b hb);exact bm _ hb)
  refine⟨_,_,hw',w.heap.size::(fps++Ab).flatten,fG,?_,?_,?_,?_,?_,?_⟩
  ·have:=aaU (hw:=hw') (o0:=0) (xs:=xs++ys) (cap:=nc) Wy (by intro j _;simp) (by rw[cP];exact asg) (by simp;omega) (by simp[hw']) (fps:=fps++Ab) (by rw[eI,uz];refine(Uj.append FV).mono (λb hb=>?_);have iB:=alO b hb;exact⟨akV b iB,by simp[hw',jo iB]⟩)
   rw[aj]at this
   exact this
  ·exact(Fr.drew _ w).trans (Fr.alloc _ _ _) (λb _ hh=>hh)
  ·intro b hb _;simp[hw',jo hb]
  ·intro b o x ho hx
   have hb:b<w.heap.size:=World.block_lt_of_cell? w _ hx
   exact⟨by simp[hw',jo hb];exact ho,by rw[World.cell?_of_block (a:=⟨b,o,none⟩) (akV b hb)];exact hx⟩
  ·refine dK.2 ⟨λhm=>Nat.lt_irrefl _ (alO _ hm),?_⟩
   rw[eJ];exact asA
  ·intro b hb
   rcases cD.1 hb with rfl|hb
   ·exact⟨by simp,.inr (.inr (aX _))⟩
   ·have iB:=alO b hb
    refine⟨by simp;omega,?_⟩
    rw[eJ,ay]at hb
    rcases hb with hb|hb
    ·exact .inl (rE b hb)
    ·exact .inr (.inl hb)
 obtain⟨vv,hvv,ho⟩:=id jl;simp at hvv;subst hvv;rcases ho with⟨⟨ad,rfl⟩,rfl,rfl⟩|⟨b,o0,cap,arr,T,fr,fps,rfl,hb,uj,hs,hc,hh,rfl,hl,ho⟩;have asq:∀w1:World,(Builtin.firstCells e.size ([]:az e.D).length (.slice ad 0 0)).run P w1=.ok ([]:jT).toArray w1:=by intro w1;cases ad with|none=>simp[Builtin.firstCells]|some ad=>exact run_firstCells_some (P:=P) w1 e.size 0 ad 0 0 [] (by simp) (λj x hj=>by simp at hj)
 by_cases hm:ys.length=0;have hy:ys=[]:=cp hm;subst hy;refine⟨.slice ad 0 0,w,hw,[],?_,⟨_,rfl,.inl ⟨⟨_,rfl⟩,rfl,rfl⟩⟩,Fr.refl _ _,λ_ _ _=>rfl,λ_ _ _ ho hx=>⟨ho,hx⟩,by simp,by simp⟩;simp only[Builtin.append_];simp only[underlying,Sem.run_bind,run_program,ht,YI,Result.andThen_ok,Sem.run_pure,sizeOf,typeInfo,DJ,wq,List.getElem?_toArray,cR,fW,hlen,bj,cy,cl,cr];simp only[dg]at Ul;have anV:news=[]:=cp (by rw[L8];simp);subst anV;simp[Ul];cases ad<;>simp[storeCells];refine grow [] 0 [] (λw1 _=>asq w1) ⟨ad,by simp⟩ (by simp;omega) (md.nil _ _ _) (by simpa using GW) (by simp);have Uj:=Lg hs hc hl ho;have hln:o0+xs.length*e.size<=arr.size:=by rw[hs];exact Nat.add_le_add_left (cU _ hc) _
 have hol:((arr.toList.drop o0).take (xs.length*e.size)).length=xs.length*e.size:=Uj.1;by_cases aha:xs.length+ys.length<=cap;have iW:o0+xs.length*e.size+news.length<=arr.size:=by rw[L8,hs,gw,<-df];exact Nat.add_le_add_left (cU _ aha) _
 have oB:=xM P b (o0+xs.length*e.size) T fr news 0 w arr hb uj (by simpa using iW) FV.oI;simp only[eE]at oB;have fG:(Builtin.append_ #[t,t'] ty #[.slice (some ⟨b,o0,none⟩) xs.length cap,u]).run P w=.ok (.slice (some ⟨b,o0,none⟩) (xs.length+ys.length) cap) (vK w b (fQ arr (o0+xs.length*e.size) news) T fr):=by simp only[Builtin.append_];simp only[underlying,Sem.run_bind,run_program,ht,YI,Result.andThen_ok,Sem.run_pure,sizeOf,typeInfo,DJ,wq,List.getElem?_toArray,cR,fW,hlen,bj,cy,cl,cr,aha,Ul,oP,oB]
 have Hv:=nN hb;rw[ik]at GW;have xY:b∉fps.flatten++Ab.flatten:=(dK.1 GW).1;let hw':Nat->Nat:=λc=>if c=b then o0+(xs++ys).length*e.size else hw c
 refine⟨_,_,hw',b::(fps++Ab).flatten,fG,?_,?_,?_,?_,?_,?_⟩;have uz:((fQ arr (o0+xs.length*e.size) news).toList.drop o0).take ((xs++ys).length*e.size)=(arr.toList.drop o0).take (xs.length*e.size)++news:=by
  have h2:((arr.toList.drop o0).take (xs.length*e.size)++news).length=(xs++ys).length*e.size:=by simp only[aj,hol,L8,df]
  have h3:(xs++ys).length*e.size=xs.length*e.size+news.length:=by rw[aj,df,L8]
  apply de;intro j;rw[kE];by_cases hj:j<(xs++ys).length*e.size;rw[aJ hj,zK iW];by_cases h1:j<xs.length*e.size;rw[kz,bu (by omega),kE,aJ h1];rw[zip,bE (by omega),hol];congr 1;omega;rw[aI hj,bS (by omega)]
 have:=aaU (hw:=hw') (w:=vK w b (fQ arr (o0+xs.length*e.size) news) T fr) (xs:=xs++ys) (cap:=cap) (fps:=fps++Ab) (yx Hv) (λj hj=>uj j (by rwa[jN]at hj)) (by rw[jN];exact hs) (by simp;omega) (by simp[hw']) (by
  rw[uz];refine(Uj.append FV).mono (λc zV=>?_);have Ec:c≠b:=by rintro rfl;exact xY (by rwa[eJ]at zV)
  exact⟨oq Ec,by simp[hw',Ec]⟩)
 rw[aj]at this;exact this;exact⟨rfl,rfl,rfl,by rw[nk];exact aX _,λc _ zV=>oq (λe=>zV (by simp[e]))⟩;intro c _ zV;have Ec:c≠b:=λe=>zV (by simp[e]);simp[hw',Ec];intro c o x M5 hx;by_cases hcb:c=b;subst hcb;rw[hh]at M5;refine⟨?_,?_⟩;simp only[hw',cr,aj,df];omega;rw[qD (yx Hv),<-cI,zK iW,kz,cI,<-qD hb];exact hx;exact⟨by simp[hw',hcb];exact M5,by rw[World.cell?_of_block (a:=⟨c,o,none⟩) (oq hcb)];exact hx⟩;refine dK.2 ⟨by rw[eJ];exact xY,?_⟩;rw[eJ];exact(dK.1 GW).2;intro c zV;rw[nk];rcases cD.1 zV with rfl|zV;exact⟨Hv,.inl (by simp)⟩;rw[eJ,ay]at zV;rcases zV with zV|zV;exact⟨iz c (by simp[zV]),.inl (by simp[zV])⟩;exact⟨iz c (by simp[zV]),.inr (.inl zV)⟩;refine grow ((arr.toList.drop o0).take (xs.length*e.size)) cap fps (λw1 hw1=>?_) ⟨_,rfl⟩ (by omega) Uj ?_ (λc zV=>by simp[zV]);refine run_firstCells_some (P:=P) w1 e.size xs.length ⟨b,o0,none⟩ xs.length cap _ hol (λj x hj=>?_);have hb1:w1.heap[b]?=some (.cells arr T fr):=by rw[hw1];exact hb
 rw[oP,qD hb1];rw[kE]at hj;split at hj;simpa using hj;cases hj;rw[ik]at GW;exact(dK.1 GW).2
def vY (w:World)(b o n:Nat):jT:=(List.range n).map λj=>(w.cell? ⟨b,o+j,none⟩).getD undef
theorem acJ {S:Nat->Nat->Prop}{u:Value}{ys:az e.D}(h:kA w S (.sl e) [u] ys)(hf:e.flat=true)(hw:Nat->Nat): ∃news,Src P w e.size u ys.length news/\md hw w e news ys (List.replicate ys.length []):=by
 obtain⟨v,hv,h⟩:=h;simp at hv;subst hv;rcases h with⟨⟨ad,rfl⟩,rfl⟩|⟨b,o,cap,rfl,hc,h⟩;cases ad with|none=>exact⟨[],⟨λ_=>rfl,λ_ _=>rfl⟩,md.nil _ _ _⟩|some ad=>exact⟨[],⟨λ_=>rfl,λw1 _=>run_firstCells_some (P:=P) w1 e.size 0 ad 0 0 [] (by simp) (λj x hj=>by simp at hj)⟩,md.nil _ _ _⟩
 have DD:∀j,j<ys.length*e.size->∃x,w.cell? ⟨b,o+j,none⟩=some x:=by
  intro j hj;have hi:j/e.size<ys.length:=by rw[Nat.div_lt_iff_lt_mul e.size_pos];exact hj
  obtain⟨cs,KN,hr⟩:=h (j/e.size) _ (aq hi);have hm:j%e.size<cs.length:=by rw[kA.length hr];exact Nat.mod_lt _ e.size_pos
  have:=(KN (j%e.size) _ (aq hm)).2;rw[gw,Nat.mul_comm,Nat.div_add_mod]at this;exact⟨_,this⟩
 have jq:∀j x,(vY w b o (ys.length*e.size))[j]?=some x->w.cell? ⟨b,o+j,none⟩=some x:=by intro j x hx;simp only[vY,fA]at hx;rcases ca j (ys.length*e.size)with hj|hj;rw[List.getElem?_range hj]at hx;obtain⟨y,hy⟩:=DD j hj;simp[hy]at hx;rw[hy,hx];rw[bS (by simpa using hj)]at hx;cases hx
 have hlen:(vY w b o (ys.length*e.size)).length=ys.length*e.size:=by simp[vY]
 refine⟨vY w b o (ys.length*e.size),⟨λ_=>rfl,λw1 hw1=>?_⟩,⟨hlen,by simp,λi y f hy hf'=>?_⟩⟩;refine run_firstCells_some (P:=P) w1 e.size ys.length ⟨b,o,none⟩ ys.length cap _ hlen (λj x hj=>?_);rw[oP];have:=jq j x hj;simpa[World.cell?,hw1]using this;have hi:i<ys.length:=(aB.1 hy).1;have DH:f=[]:=by rw[eK,aJ hi]at hf';simpa using hf'.symm
 subst DH;obtain⟨cs,KN,hr⟩:=h i y hy;have hm:(i+1)*e.size<=ys.length*e.size:=cU _ hi;rw[df,gB]at hm;have e1:((vY w b o (ys.length*e.size)).drop (i*e.size)).take e.size=cs:=by
  apply de;intro j;rw[kE];have hcl:=kA.length hr;split;rename_i hj;have hjc:j<cs.length:=by omega
  have hx:=(KN j _ (aq hjc)).2;have h2:(vY w b o (ys.length*e.size))[i*e.size+j]?=some cs[j]:=by simp only[vY,fA,List.getElem?_range (show i*e.size+j<ys.length*e.size by omega),dL];rw[<-gw,hx];rfl
  rw[h2,aq hjc];rw[bS (by omega)]
 rw[e1];exact OE hr hf
theorem akl {u:Value}{ys:az e.D}{fp:gk}(h:gG hw w (.sl e) [u] ys fp): ∃news Ab,Src P w e.size u ys.length news/\md hw w e news ys Ab/\(∀b∈Ab.flatten,b∈fp)/\(fp.Nodup->Ab.flatten.Nodup):=by
 obtain⟨v,hv,h⟩:=h;simp at hv;subst hv;rcases h with⟨⟨ad,rfl⟩,rfl,rfl⟩|⟨b,o0,cap,arr,T,fr,fps,rfl,hb,uj,hs,hc,hh,rfl,hl,ho⟩;refine⟨[],[],⟨λ_=>rfl,λw1 _=>?_⟩,md.nil _ _ _,by simp,by simp⟩;cases ad with|none=>rfl|some ad=>exact run_firstCells_some (P:=P) w1 e.size 0 ad 0 0 [] (by simp) (λj x hj=>by simp at hj)
 have Uj:=Lg hs hc hl ho;refine⟨_,fps,⟨λ_=>rfl,λw1 hw1=>?_⟩,Uj,λc zV=>by simp[zV],λhn=>(dK.1 hn).2⟩;refine run_firstCells_some (P:=P) w1 e.size ys.length ⟨b,o0,none⟩ ys.length cap _ Uj.1 (λj x hj=>?_);have hb1:w1.heap[b]?=some (.cells arr T fr):=by rw[hw1];exact hb
 rw[oP,qD hb1];rw[kE]at hj;split at hj;simpa using hj;cases hj
theorem akm (s:az UInt8)(hw:Nat->Nat):∃news,Src P w (CT.size (.int .u8)) (.string ⟨s.toArray⟩) (dQ s).length news/\md hw w (.int .u8) news (dQ s) (List.replicate (dQ s).length []):=by
 have hl:(dQ s).length=s.length:=by simp[dQ]
 refine⟨(dQ s).map (Value.int .u8),⟨λw1=>by simp[Builtin.lenOf,yV,hl],λw1 _=>?_⟩,⟨by simp[CT.size],by simp,λi y f hy hf=>?_⟩⟩;have:(ByteArray.mk s.toArray).extract 0 s.length=ByteArray.mk s.toArray:=by rw[extract_mk];simp
 simp[Builtin.firstCells,this,dQ];have hi:i<(dQ s).length:=(aB.1 hy).1;have hf':f=[]:=by rw[eK,aJ hi]at hf;simpa using hf.symm
 subst hf';refine⟨?_,rfl⟩;apply de;intro j;rw[kE];simp only[CT.size,oQ];cases j with|zero=>simp[hy]|succ j=>simp
theorem VX {o:Oper}{s x:Operand}{t t':TypeId}(ho:o.op=.call {callee:=.builtin .append,args:=#[s,x],argTypes:=#[t,t']}){v:Value}{w':World}(h:(Builtin.append_ #[t,t'] o.type #[a.eval s,a.eval x]).run P w=.ok v w'):(execOp a.eval o).run P w=.ok (.value v) w':=by
 have e1:(#[s,x]:Array Operand).map a.eval=#[a.eval s,a.eval x]:=by simp
 simp only[execOp,ho,resolve,e1,Sem.run_bind,Sem.run_pure,Result.andThen_ok,invoke,builtin];show((Builtin.append_ #[t,t'] o.type #[a.eval s,a.eval x]).run P w).andThen _=_;rw[h];rfl
theorem VA {E:Env}(hE:kJ P E.ty){o:Oper}{args:Array Operand}{ts:Array TypeId}(ho:o.op=.call {callee:=.builtin .append,args,argTypes:=ts})(h:pT C st a w){K:AS->aC R}(hk:yA E o ts.toList args.toList st K=some r):ox P C o a w K r:=by
 obtain⟨g,hg⟩:=h;unfold yA at hk;split at hk;rename_i t t' s x uW il;have ea:args=#[s,x]:=by apply gj;simpa using il
 have et:ts=#[t,t']:=by apply gj;simpa using uW
 subst ea;subst et;split at hk;rename_i tag e xs st1 Up;obtain⟨g1,hg1⟩:=hg.take s;rw[Up]at hg1;simp only[bX]at hg1;obtain⟨g2,H7⟩:=hg1.take x
 have fin:∀(u:AV)(st2:AS),st1.take x=(u,st2)->eX C g2 st2 a w [(a.eval s,.val false [.sl (.own tag) e xs]),(a.eval x,u)]->∀(ys:az e.D)(news:jT)(Ab:az gk)(fq:gk),
  iu (dp C g2 st2 w) (a.eval x) u fq->(∀b∈fq,g2.fL b=some (.hand 1))->E.sl t=some e->∀dt,P.underlying t'=some dt->(∀k,dt≠ .int k)->
  Src P w e.size (a.eval x) ys.length news->md g2.hw w e news ys Ab->(∀b∈Ab.flatten,b∈fq)->Ab.flatten.Nodup->xs.length+ys.length<=1073741824->
  K (st2.rF o.dst e (xs++ys))=some r->ox P C o a w K r:=by
  intro u st2 _ H7 ys news Ab fq _ hlq hT dt hdt asl Jg FV rE GW Hw Q2
  obtain⟨fp,hrs,asC,agZ⟩:=H7.hands 0 _ _ rfl
  have jl:=(fO hrs).1
  obtain⟨te,hu,he⟩:=Gq hE hT
  have iz:∀b∈fp++Ab.flatten,b<w.heap.size:=by intro b hb;rcases ay.1 hb with hb|hb;exact(H7.iw b _ (agZ b hb)).1;exact(H7.iw b _ (hlq b (rE b hb))).1
  have asy:(fp++Ab.flatten).Nodup:=by refine aO.2 ⟨asC,GW,?_⟩;rintro b hb c hc rfl;have h1:=agZ b hb;rw[hlq b (rE b hc)]at h1;cases h1
  obtain⟨v',w',hw',lT,fG,Jd,kB,GV,Je,Un,KO⟩:=YS (ty:=o.type) hu he hdt asl jl Jg FV iz asy Hw
  refine⟨v',w',_,.inl (VX ho fG),?_,Q2⟩
  refine H7.PZ o.dst (hw':=hw') (fp:=lT) ⟨kB.os,kB.tape,kB.output,kB.size,λb hb hh=>kB.block b hb (λhm=>hh (by rw[agZ b hm];rfl))⟩ ?_ Je Jd Un ?_
  ·intro b y hb hh
   refine GV b (H7.iw b y hb).1 (λhm=>hh ?_)
   rw[<-hb,agZ b hm];rfl
  ·intro b hb
   obtain⟨h1,h2⟩:=KO b hb
   refine⟨h1,?_⟩
   rcases h2 with h2|h2|h2
   ·exact .inl (by rw[agZ b h2];rfl)
   ·exact .inl (by rw[hlq b (rE b h2)];rfl)
   ·exact .inr h2
 split at hk;rename_i fl e' ys st2 Jh;split at hk;rename_i hee;subst hee;split at hk;rename_i hc;obtain⟨hT,hT',hgv⟩:=hc;unfold room at hk;split at hk;rename_i Hw;rw[Jh]at H7;have Z3:eX C g2 st2 a w [(a.eval s,.val false [.sl (.own tag) e' xs]),(a.eval x,.val false [.sl fl e' ys])]:=H7;obtain⟨fq,hrx,hnq,hlq⟩:=Z3.hands 1 _ _ rfl;obtain⟨te',Uq,_⟩:=Gq hE hT';have Ae:st2.ep=st.ep:=by have h1:= @Vj st s;have h2:= @Vj st1 x;rw[Up]at h1;rw[Jh]at h2;exact h2.trans h1
 have hcx:=fO hrx;cases fl with
 |nest _ _ _ _ _ _=>simp[sC.ou]at hgv
 |part _ _ _ _=>simp[sC.ou]at hgv
 |gH _ _ _=>simp[sC.ou]at hgv
 |own tg=>obtain⟨news,Ab,Jg,FV,rE,GW⟩:=akl (P:=P) hcx.1;exact fin _ st2 Jh Z3 ys news Ab fq hrx hlq hT _ Uq (by simp) Jg FV rE (GW hnq) Hw hk
 |arg _=>obtain⟨news,Jg,FV⟩:=acJ (P:=P) hcx.2 (by simpa[sC.ou]using hgv) g2.hw;exact fin _ st2 Jh Z3 ys news _ fq hrx hlq hT _ Uq (by simp) Jg FV (by simp) (by simp) Hw hk
 |loc ep pv=>
  simp only[sC.ou,ae,bn]at hgv;have aso:ep=(dp C g2 st2 w).ep:=by show ep=st2.ep;rw[Ae];exact hgv.1
  obtain⟨news,Jg,FV⟩:=acJ (P:=P) (hcx.2.2.2.1 aso) hgv.2 g2.hw;exact fin _ st2 Jh Z3 ys news _ fq hrx hlq hT _ Uq (by simp) Jg FV (by simp) (by simp) Hw hk
 cases hk;cases hk;cases hk;rename_i s0 st2 Jh;split at hk;rename_i hee;subst hee;split at hk;rename_i hc;obtain⟨hT,hT'⟩:=hc;unfold room at hk;split at hk;rename_i Hw;rw[Jh]at H7;have Z3:eX C g2 st2 a w [(a.eval s,.val false [.sl (.own tag) (.int .u8) xs]),(a.eval x,.val false [.str s0])]:=H7;obtain⟨fq,hrx,hnq,hlq⟩:=Z3.hands 1 _ _ rfl;have hcx:=fO hrx;obtain⟨news,Jg,FV⟩:=akm (P:=P) (w:=w) s0 g2.hw;rw[<-hcx.1]at Jg;have hl:(dQ s0).length=s0.length:=by simp[dQ]
 exact fin _ st2 Jh Z3 (dQ s0) news _ fq hrx hlq hT _ (Vd hE hT') (by simp) Jg FV (by simp) (by simp) (by rw[hl];exact Hw) hk;cases hk;cases hk;cases hk;cases hk;cases hk;cases hk
end Go.Dn
