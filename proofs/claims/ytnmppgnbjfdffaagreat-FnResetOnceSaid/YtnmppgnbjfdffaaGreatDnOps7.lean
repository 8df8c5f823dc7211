import Derived.Test.YtnmppgnbjfdffaaGreatDnOps6
/- Part 7: append. -/
namespace Go.Dn
open Go.RowKit
variable {P:Program} {C:Ctx} {st:AS} {a:Act} {w:World} {R:Type} {r:R}
variable {e:CT} {hw:Nat->Nat}
structure Src (P:Program) (w:World) (size:Nat) (u:Value) (m:Nat) (news:List Value):Prop where
 len:∀w1:World,(Builtin.lenOf u).run P w1=.ok m w1
 first:∀w1:World,w1.heap=w.heap->(Builtin.firstCells size m u).run P w1=.ok news.toArray w1
theorem SL {t t' ty te:TypeId}(ht:P.underlying t=some (.slice te))(he:IQ P te e){dt:TypeDesc}(SA:P.underlying t'=some dt)(hdt:∀k,dt≠ .int k){v u:Value}{xs ys:aw e.D}{fp:ff}{news:ir}{vX:aw ff}(gC:eV hw w (.sl e) [v] xs fp)(E0:Src P w e.size u ys.length news)(BH:jQ hw w e news ys vX)(hG:∀b∈fp++vX.flatten,b<w.heap.size)(CI:(fp++vX.flatten).Nodup)(Dd:xs.length+ys.length<=1073741824): ∃v' w' hw' jJ,(Builtin.append_ #[t,t'] ty #[v,u]).run P w=.ok v' w'/\eV hw' w' (.sl e) [v'] (xs++ys) jJ/\Fr (λb=>b∈fp) w w'/\(∀b,b<w.heap.size->b∉fp->hw' b=hw b)/\ (∀b o x,o<hw b->w.cell? ⟨b,o,none⟩=some x->o<hw' b/\w'.cell? ⟨b,o,none⟩=some x)/\jJ.Nodup/\∀b∈jJ,b<w'.heap.size/\(b∈fp\/b∈vX.flatten\/w.heap.size<=b):=by
 obtain⟨⟨inf,z,zv,sB,hby,hz,hzc⟩,_⟩:=he;have hzs:z.cells.size=e.size:=by rw[<-nV e,<-hzc];simp
 have Xc:=e.size_pos;have hnz:(match dt with| .int _=>true|_=>false)=false:=by cases dt<;>simp;exact absurd rfl (hdt _)
 have Oc:=E0.first w rfl
 have ac3:=E0.first w.drew rfl
 have hlen:=E0.len;have Hw:=BH.1;have h63:¬((xs.length+ys.length:Nat):Int)>IntKind.i64.max:=by
  have:IntKind.i64.max=9223372036854775807:=by decide
  omega
 have grow:∀(OH:ir)(KB:Nat)(fps:aw ff),(∀w1:World,w1.heap=w.heap->(Builtin.firstCells e.size xs.length v).run P w1=.ok OH.toArray w1)->(∃base,v=.slice base xs.length KB)->KB<xs.length+ys.length->
  jQ hw w e OH xs fps->(fps.flatten++vX.flatten).Nodup->(∀b∈fps.flatten,b∈fp)->
  ∃v' w' hw' jJ,(Builtin.append_ #[t,t'] ty #[v,u]).run P w=.ok v' w'/\eV hw' w' (.sl e) [v'] (xs++ys) jJ/\Fr (λb=>b∈fp) w w'/\(∀b,b<w.heap.size->b∉fp->hw' b=hw b)/\
  (∀b o x,o<hw b->w.cell? ⟨b,o,none⟩=some x->o<hw' b/\w'.cell? ⟨b,o,none⟩=some x)/\jJ.Nodup/\∀b∈jJ,b<w'.heap.size/\(b∈fp\/b∈vX.flatten\/w.heap.size<=b):=by
  intro OH KB fps hold aha EV Oa alI oh
  obtain⟨base,rfl⟩:=aha
  have ahv:=hold w.drew rfl
  have gu:Builtin.nextslicecap (xs.length+ys.length) KB*inf.bytes<=281474976710656:=by refine growslice_fits EV ?_;have:(xs.length+ys.length)*inf.bytes<=1073741824*65536:=Nat.mul_le_mul Dd hby;omega
  have dV:(Builtin.append_ #[t,t'] ty #[.slice base xs.length KB,u]).run P w=
   .ok (.slice (some ⟨w.heap.size,0,none⟩) (xs.length+ys.length) (grownCap w (xs.length+ys.length) KB te))
    (w.drew.alloc (.cells (OH.toArray++news.toArray++Builtin.zeroCells z.cells (grownCap w (xs.length+ys.length) KB te-(xs.length+ys.length))) te)):=by
   have h1:¬(xs.length+ys.length<=KB):=by omega
   have h2:¬(281474976710656<Builtin.nextslicecap (xs.length+ys.length) KB*inf.bytes):=by omega
   simp only[Builtin.append_]
   simp only[underlying,Sem.run_bind,run_program,ht,SA,Result.andThen_ok,Sem.run_pure,sizeOf,typeInfo,zv,sB,List.getElem?_toArray,cn,eF,hlen,aL,aU,bQ,
    h1,h63,false_and,bM,zeroValue,newRow]
   rw[aG (by simpa using h2)]
   simp only[Sem.run_bind,run_choose,Question.forced,aU,bQ,Result.andThen_ok,run_program,zv,run_askRoom,Sem.run_pure]
   have e1:=ahv
   have e2:=ac3
   simp only[World.drew]at e1 e2
   simp only[e1,e2,Result.andThen_ok,hz,Sem.run_pure,run_newObj]
   rfl
  have yc:=grownCap_ge w (xs.length+ys.length) KB te
  generalize grownCap w (xs.length+ys.length) KB te=nc at dV yc
  have alT:(Builtin.zeroCells z.cells (nc-(xs.length+ys.length))).size=(nc-(xs.length+ys.length))*e.size:=by rw[size_zeroCells,hzs]
  let iI:Array Value:=OH.toArray++news.toArray++Builtin.zeroCells z.cells (nc-(xs.length+ys.length))
  have hlo:=Oa.1
  have alo:iI.size=nc*e.size:=by show(OH.toArray++news.toArray++Builtin.zeroCells z.cells (nc-(xs.length+ys.length))).size=_;rw[Array.size_append,Array.size_append,alT];simp only[List.size_toArray,hlo,Hw,<-cw];congr 1;omega
  let hw':Nat->Nat:=λb=>if b=w.heap.size then(xs++ys).length*e.size else hw b
  have Qz:(w.drew.alloc (.cells iI te)).heap[w.heap.size]?=some (.cells iI te (0,0)):=heap_alloc_new w.drew _
  have aet:∀b,b<w.heap.size->(w.drew.alloc (.cells iI te)).heap[b]?=w.heap[b]?:=λb hb=>heap_alloc_old w.drew _ b hb
  have qD:iI.toList.take ((xs++ys).length*e.size)=OH++news:=by
   show(OH.toArray++news.toArray++Builtin.zeroCells z.cells (nc-(xs.length+ys.length))).toList.take _=_;rw[Array.toList_append,Array.toList_append];have:(OH++news).length=(xs++ys).length*e.size:=by simp only[ai,hlo,Hw,cw]
   rw[<-this];exact List.take_left
  have afm:∀b∈(fps++vX).flatten,b<w.heap.size:=by intro b hb;rw[dN,ax]at hb;exact hG b (by rcases hb with hb|hb;exact bn _ (oh b hb);exact ba _ hb)
  refine⟨_,_,hw',w.heap.size::(fps++vX).flatten,dV,?_,?_,?_,?_,?_,?_⟩
  ·have:=UA (hw:=hw') (o0:=0) (xs:=xs++ys) (cap:=nc) Qz (by intro j _;simp) (by rw[cl];exact alo) (by simp;omega) (by simp[hw']) (fps:=fps++vX) (by rw[eD,qD];refine(Oa.append BH).mono (λb hb=>?_);have gK:=afm b hb;exact⟨aet b gK,by simp[hw',gF gK]⟩)
   rw[ai]at this
   exact this
  ·exact(Fr.drew _ w).trans (Fr.alloc _ _ _) (λb _ hh=>hh)
  ·intro b hb _;simp[hw',gF hb]
  ·intro b o x ho hx
   have hb:b<w.heap.size:=World.block_lt_of_cell? w _ hx
   exact⟨by simp[hw',gF hb];exact ho,by rw[World.cell?_of_block (a:=⟨b,o,none⟩) (aet b hb)];exact hx⟩
  ·refine cZ.2 ⟨λhm=>Nat.lt_irrefl _ (afm _ hm),?_⟩
   rw[dN];exact alI
  ·intro b hb
   rcases cg.1 hb with rfl|hb
   ·exact⟨by simp,.inr (.inr (aS _))⟩
   ·have gK:=afm b hb
    refine⟨by simp;omega,?_⟩
    rw[dN,ax]at hb
    rcases hb with hb|hb
    ·exact .inl (oh b hb)
    ·exact .inr (.inl hb)
 obtain⟨vv,hvv,ho⟩:=id gC;simp at hvv;subst hvv;rcases ho with⟨⟨ad,rfl⟩,rfl,rfl⟩|⟨b,o0,cap,arr,T,fr,fps,rfl,hb,qv,hs,hc,hh,rfl,hl,ho⟩;have aly:∀w1:World,(Builtin.firstCells e.size ([]:aw e.D).length (.slice ad 0 0)).run P w1=.ok ([]:ir).toArray w1:=by intro w1;cases ad with|none=>simp[Builtin.firstCells]|some ad=>exact run_firstCells_some (P:=P) w1 e.size 0 ad 0 0 [] (by simp) (λj x hj=>by simp at hj)
 by_cases hm:ys.length=0;have hy:ys=[]:=bO hm;subst hy;refine⟨.slice ad 0 0,w,hw,[],?_,⟨_,rfl,.inl ⟨⟨_,rfl⟩,rfl,rfl⟩⟩,Fr.refl _ _,λ_ _ _=>rfl,λ_ _ _ ho hx=>⟨ho,hx⟩,by simp,by simp⟩;simp only[Builtin.append_];simp only[underlying,Sem.run_bind,run_program,ht,SA,Result.andThen_ok,Sem.run_pure,sizeOf,typeInfo,zv,sB,List.getElem?_toArray,cn,eF,hlen,aU,bQ,cb,bM];simp only[eG]at Oc;have ahs:news=[]:=bO (by rw[Hw];simp);subst ahs;simp[Oc];cases ad<;>simp[storeCells];refine grow [] 0 [] (λw1 _=>aly w1) ⟨ad,by simp⟩ (by simp;omega) (jQ.nil _ _ _) (by simpa using CI) (by simp);have Oa:=GN hs hc hl ho;have hln:o0+xs.length*e.size<=arr.size:=by rw[hs];exact Nat.add_le_add_left (cq _ hc) _
 have hol:((arr.toList.drop o0).take (xs.length*e.size)).length=xs.length*e.size:=Oa.1;by_cases aaN:xs.length+ys.length<=cap;have gu:o0+xs.length*e.size+news.length<=arr.size:=by rw[Hw,hs,fu,<-cw];exact Nat.add_le_add_left (cq _ aaN) _
 have lN:=tP P b (o0+xs.length*e.size) T fr news 0 w arr hb qv (by simpa using gu) BH.lV;simp only[dK]at lN;have dV:(Builtin.append_ #[t,t'] ty #[.slice (some ⟨b,o0,none⟩) xs.length cap,u]).run P w=.ok (.slice (some ⟨b,o0,none⟩) (xs.length+ys.length) cap) (rX w b (eh arr (o0+xs.length*e.size) news) T fr):=by simp only[Builtin.append_];simp only[underlying,Sem.run_bind,run_program,ht,SA,Result.andThen_ok,Sem.run_pure,sizeOf,typeInfo,zv,sB,List.getElem?_toArray,cn,eF,hlen,aU,bQ,cb,bM,aaN,Oc,md,lN]
 have Dc:=la hb;rw[List.cons_append]at CI;have tZ:b∉fps.flatten++vX.flatten:=(cZ.1 CI).1;let hw':Nat->Nat:=λc=>if c=b then o0+(xs++ys).length*e.size else hw c
 refine⟨_,_,hw',b::(fps++vX).flatten,dV,?_,?_,?_,?_,?_,?_⟩;have qD:((eh arr (o0+xs.length*e.size) news).toList.drop o0).take ((xs++ys).length*e.size)=(arr.toList.drop o0).take (xs.length*e.size)++news:=by
  have h2:((arr.toList.drop o0).take (xs.length*e.size)++news).length=(xs++ys).length*e.size:=by simp only[ai,hol,Hw,cw]
  have h3:(xs++ys).length*e.size=xs.length*e.size+news.length:=by rw[ai,cw,Hw]
  apply cE;intro j;rw[iU];by_cases hj:j<(xs++ys).length*e.size;rw[aF hj,vJ gu];by_cases h1:j<xs.length*e.size;rw[lF,br (by omega),iU,aF h1];rw[zip,bl (by omega),hol];congr 1;omega;rw[aG hj,bu (by omega)]
 have:=UA (hw:=hw') (w:=rX w b (eh arr (o0+xs.length*e.size) news) T fr) (xs:=xs++ys) (cap:=cap) (fps:=fps++vX) (uE Dc) (λj hj=>qv j (by rwa[ik]at hj)) (by rw[ik];exact hs) (by simp;omega) (by simp[hw']) (by
  rw[qD];refine(Oa.append BH).mono (λc wx=>?_);have Ad:c≠b:=by rintro rfl;exact tZ (by rwa[dN]at wx)
  exact⟨lB Ad,by simp[hw',Ad]⟩)
 rw[ai]at this;exact this;exact⟨rfl,rfl,rfl,by rw[kM];exact aS _,λc _ wx=>lB (λe=>wx (by simp[e]))⟩;intro c _ wx;have Ad:c≠b:=λe=>wx (by simp[e]);simp[hw',Ad];intro c o x Ie hx;by_cases hcb:c=b;subst hcb;rw[hh]at Ie;refine⟨?_,?_⟩;simp only[hw',bM,ai,cw];omega;rw[nv (uE Dc),<-cf,vJ gu,lF,cf,<-nv hb];exact hx;exact⟨by simp[hw',hcb];exact Ie,by rw[World.cell?_of_block (a:=⟨c,o,none⟩) (lB hcb)];exact hx⟩;refine cZ.2 ⟨by rw[dN];exact tZ,?_⟩;rw[dN];exact(cZ.1 CI).2;intro c wx;rw[kM];rcases cg.1 wx with rfl|wx;exact⟨Dc,.inl (by simp)⟩;rw[dN,ax]at wx;rcases wx with wx|wx;exact⟨hG c (by simp[wx]),.inl (by simp[wx])⟩;exact⟨hG c (by simp[wx]),.inr (.inl wx)⟩;refine grow ((arr.toList.drop o0).take (xs.length*e.size)) cap fps (λw1 hw1=>?_) ⟨_,rfl⟩ (by omega) Oa ?_ (λc wx=>by simp[wx]);refine run_firstCells_some (P:=P) w1 e.size xs.length ⟨b,o0,none⟩ xs.length cap _ hol (λj x hj=>?_);have hb1:w1.heap[b]?=some (.cells arr T fr):=by rw[hw1];exact hb
 rw[md,nv hb1];rw[iU]at hj;split at hj;simpa using hj;cases hj;rw[List.cons_append]at CI;exact(cZ.1 CI).2
def so (w:World)(b o n:Nat):ir:=(List.range n).map λj=>(w.cell? ⟨b,o+j,none⟩).getD undef
theorem Wm {S:Nat->Nat->Prop}{u:Value}{ys:aw e.D}(h:iR w S (.sl e) [u] ys)(hf:e.flat=true)(hw:Nat->Nat): ∃news,Src P w e.size u ys.length news/\jQ hw w e news ys (List.replicate ys.length []):=by
 obtain⟨v,hv,h⟩:=h;simp at hv;subst hv;rcases h with⟨⟨ad,rfl⟩,rfl⟩|⟨b,o,cap,rfl,hc,h⟩;cases ad with|none=>exact⟨[],⟨λ_=>rfl,λ_ _=>rfl⟩,jQ.nil _ _ _⟩|some ad=>exact⟨[],⟨λ_=>rfl,λw1 _=>run_firstCells_some (P:=P) w1 e.size 0 ad 0 0 [] (by simp) (λj x hj=>by simp at hj)⟩,jQ.nil _ _ _⟩
 have zt:∀j,j<ys.length*e.size->∃x,w.cell? ⟨b,o+j,none⟩=some x:=by
  intro j hj;have hi:j/e.size<ys.length:=by rw[Nat.div_lt_iff_lt_mul e.size_pos];exact hj
  obtain⟨cs,Gl,hr⟩:=h (j/e.size) _ (al hi);have hm:j%e.size<cs.length:=by rw[iR.length hr];exact Nat.mod_lt _ e.size_pos
  have:=(Gl (j%e.size) _ (al hm)).2;rw[fu,Nat.mul_comm,Nat.div_add_mod]at this;exact⟨_,this⟩
 have gG:∀j x,(so w b o (ys.length*e.size))[j]?=some x->w.cell? ⟨b,o+j,none⟩=some x:=by intro j x hx;simp only[so,List.getElem?_map]at hx;rcases bW j (ys.length*e.size)with hj|hj;rw[List.getElem?_range hj]at hx;obtain⟨y,hy⟩:=zt j hj;simp[hy]at hx;rw[hy,hx];rw[bu (by simpa using hj)]at hx;cases hx
 have hlen:(so w b o (ys.length*e.size)).length=ys.length*e.size:=by simp[so]
 refine⟨so w b o (ys.length*e.size),⟨λ_=>rfl,λw1 hw1=>?_⟩,⟨hlen,by simp,λi y f hy hf'=>?_⟩⟩;refine run_firstCells_some (P:=P) w1 e.size ys.length ⟨b,o,none⟩ ys.length cap _ hlen (λj x hj=>?_);rw[md];have:=gG j x hj;simpa[World.cell?,hw1]using this;have hi:i<ys.length:=(aE.1 hy).1;have Aa:f=[]:=by rw[dQ,aF hi]at hf';simpa using hf'.symm
 subst Aa;obtain⟨cs,Gl,hr⟩:=h i y hy;have hm:(i+1)*e.size<=ys.length*e.size:=cq _ hi;rw[cw,eT]at hm;have e1:((so w b o (ys.length*e.size)).drop (i*e.size)).take e.size=cs:=by
  apply cE;intro j;rw[iU];have hcl:=iR.length hr;split;rename_i hj;have hjc:j<cs.length:=by omega
  have hx:=(Gl j _ (al hjc)).2;have h2:(so w b o (ys.length*e.size))[i*e.size+j]?=some cs[j]:=by simp only[so,List.getElem?_map,List.getElem?_range (show i*e.size+j<ys.length*e.size by omega),da];rw[<-fu,hx];rfl
  rw[h2,al hjc];rw[bu (by omega)]
 rw[e1];exact Jq hr hf
theorem adR {u:Value}{ys:aw e.D}{fp:ff}(h:eV hw w (.sl e) [u] ys fp): ∃news vX,Src P w e.size u ys.length news/\jQ hw w e news ys vX/\(∀b∈vX.flatten,b∈fp)/\(fp.Nodup->vX.flatten.Nodup):=by
 obtain⟨v,hv,h⟩:=h;simp at hv;subst hv;rcases h with⟨⟨ad,rfl⟩,rfl,rfl⟩|⟨b,o0,cap,arr,T,fr,fps,rfl,hb,qv,hs,hc,hh,rfl,hl,ho⟩;refine⟨[],[],⟨λ_=>rfl,λw1 _=>?_⟩,jQ.nil _ _ _,by simp,by simp⟩;cases ad with|none=>rfl|some ad=>exact run_firstCells_some (P:=P) w1 e.size 0 ad 0 0 [] (by simp) (λj x hj=>by simp at hj)
 have Oa:=GN hs hc hl ho;refine⟨_,fps,⟨λ_=>rfl,λw1 hw1=>?_⟩,Oa,λc wx=>by simp[wx],λhn=>(cZ.1 hn).2⟩;refine run_firstCells_some (P:=P) w1 e.size ys.length ⟨b,o0,none⟩ ys.length cap _ Oa.1 (λj x hj=>?_);have hb1:w1.heap[b]?=some (.cells arr T fr):=by rw[hw1];exact hb
 rw[md,nv hb1];rw[iU]at hj;split at hj;simpa using hj;cases hj
theorem adS (s:aw UInt8)(hw:Nat->Nat):∃news,Src P w (CT.size (.int .u8)) (.string ⟨s.toArray⟩) (di s).length news/\jQ hw w (.int .u8) news (di s) (List.replicate (di s).length []):=by
 have hl:(di s).length=s.length:=by simp[di]
 refine⟨(di s).map (Value.int .u8),⟨λw1=>by simp[Builtin.lenOf,vc,hl],λw1 _=>?_⟩,⟨by simp[CT.size],by simp,λi y f hy hf=>?_⟩⟩;have:(ByteArray.mk s.toArray).extract 0 s.length=ByteArray.mk s.toArray:=by rw[extract_mk];simp
 simp[Builtin.firstCells,this,di];have hi:i<(di s).length:=(aE.1 hy).1;have hf':f=[]:=by rw[dQ,aF hi]at hf;simpa using hf.symm
 subst hf';refine⟨?_,rfl⟩;apply cE;intro j;rw[iU];simp only[CT.size,me];cases j with|zero=>simp[hy]|succ j=>simp
theorem P0 {o:Oper}{s x:Operand}{t t':TypeId}(ho:o.op=.call {callee:=.builtin .append,args:=#[s,x],argTypes:=#[t,t']}){v:Value}{w':World}(h:(Builtin.append_ #[t,t'] o.type #[a.eval s,a.eval x]).run P w=.ok v w'):(execOp a.eval o).run P w=.ok (.value v) w':=by
 have e1:(#[s,x]:Array Operand).map a.eval=#[a.eval s,a.eval x]:=by simp
 simp only[execOp,ho,resolve,e1,Sem.run_bind,Sem.run_pure,Result.andThen_ok,invoke,builtin];show((Builtin.append_ #[t,t'] o.type #[a.eval s,a.eval x]).run P w).andThen _=_;rw[h];rfl
theorem PB {E:Env}(hE:iY P E.ty){o:Oper}{args:Array Operand}{ts:Array TypeId}(ho:o.op=.call {callee:=.builtin .append,args,argTypes:=ts})(h:mP C st a w){K:AS->ay R}(hk:uG E o ts.toList args.toList st K=some r):lH P C o a w K r:=by
 obtain⟨g,hg⟩:=h;unfold uG at hk;split at hk;rename_i t t' s x rb fL;have ea:args=#[s,x]:=by apply eO;simpa using fL
 have et:ts=#[t,t']:=by apply eO;simpa using rb
 subst ea;subst et;split at hk;rename_i tag e xs st1 Oh;obtain⟨g1,hg1⟩:=hg.take s;rw[Oh]at hg1;simp only[cA]at hg1;obtain⟨g2,DW⟩:=hg1.take x
 have fin:∀(u:AV)(st2:AS),st1.take x=(u,st2)->dH C g2 st2 a w [(a.eval s,.val false [.sl (.own tag) e xs]),(a.eval x,u)]->∀(ys:aw e.D)(news:ir)(vX:aw ff)(fq:ff),
  fP (cH C g2 st2 w) (a.eval x) u fq->(∀b∈fq,g2.dX b=some (.hand 1))->E.sl t=some e->∀dt,P.underlying t'=some dt->(∀k,dt≠ .int k)->
  Src P w e.size (a.eval x) ys.length news->jQ g2.hw w e news ys vX->(∀b∈vX.flatten,b∈fq)->vX.flatten.Nodup->xs.length+ys.length<=1073741824->
  K (st2.om o.dst e (xs++ys))=some r->lH P C o a w K r:=by
  intro u st2 _ DW ys news vX fq _ hlq hT dt hdt als E0 BH oh CI Dd Oe
  obtain⟨fp,hrs,alK,aaG⟩:=DW.hands 0 _ _ rfl
  have gC:=(ee hrs).1
  obtain⟨te,hu,he⟩:=Cc hE hT
  have hG:∀b∈fp++vX.flatten,b<w.heap.size:=by intro b hb;rcases ax.1 hb with hb|hb;exact(DW.fQ b _ (aaG b hb)).1;exact(DW.fQ b _ (hlq b (oh b hb))).1
  have alG:(fp++vX.flatten).Nodup:=by refine aH.2 ⟨alK,CI,?_⟩;rintro b hb c hc rfl;have h1:=aaG b hb;rw[hlq b (oh b hc)]at h1;cases h1
  obtain⟨v',w',hw',jJ,dV,EX,je,CH,EY,Of,Gm⟩:=SL (ty:=o.type) hu he hdt als gC E0 BH hG alG Dd
  refine⟨v',w',_,.inl (P0 ho dV),?_,Oe⟩
  refine DW.Kv o.dst (hw':=hw') (fp:=jJ) ⟨je.os,je.tape,je.output,je.size,λb hb hh=>je.block b hb (λhm=>hh (by rw[aaG b hm];rfl))⟩ ?_ EY EX Of ?_
  ·intro b y hb hh
   refine CH b (DW.fQ b y hb).1 (λhm=>hh ?_)
   rw[<-hb,aaG b hm];rfl
  ·intro b hb
   obtain⟨h1,h2⟩:=Gm b hb
   refine⟨h1,?_⟩
   rcases h2 with h2|h2|h2
   ·exact .inl (by rw[aaG b h2];rfl)
   ·exact .inl (by rw[hlq b (oh b h2)];rfl)
   ·exact .inr h2
 split at hk;rename_i fl e' ys st2 E1;split at hk;rename_i hee;subst hee;split at hk;rename_i hc;obtain⟨hT,hT',hgv⟩:=hc;unfold room at hk;split at hk;rename_i Dd;rw[E1]at DW;have TJ:dH C g2 st2 a w [(a.eval s,.val false [.sl (.own tag) e' xs]),(a.eval x,.val false [.sl fl e' ys])]:=DW;obtain⟨fq,Xe,hnq,hlq⟩:=TJ.hands 1 _ _ rfl;obtain⟨te',Oi,_⟩:=Cc hE hT';have vY:st2.ep=st.ep:=by have h1:= @Pg st s;have h2:= @Pg st1 x;rw[Oh]at h1;rw[E1]at h2;exact h2.trans h1
 have hcx:=ee Xe;cases fl with
 |nest _ _ _ _ _ _=>simp[oP.oU]at hgv
 |part _ _ _ _=>simp[oP.oU]at hgv
 |eX _ _ _=>simp[oP.oU]at hgv
 |own tg=>obtain⟨news,vX,E0,BH,oh,CI⟩:=adR (P:=P) hcx.1;exact fin _ st2 E1 TJ ys news vX fq Xe hlq hT _ Oi (by simp) E0 BH oh (CI hnq) Dd hk
 |arg _=>obtain⟨news,E0,BH⟩:=Wm (P:=P) hcx.2 (by simpa[oP.oU]using hgv) g2.hw;exact fin _ st2 E1 TJ ys news _ fq Xe hlq hT _ Oi (by simp) E0 BH (by simp) (by simp) Dd hk
 |loc ep pv=>
  simp only[oP.oU,ae,bc]at hgv;have alw:ep=(cH C g2 st2 w).ep:=by show ep=st2.ep;rw[vY];exact hgv.1
  obtain⟨news,E0,BH⟩:=Wm (P:=P) (hcx.2.2.2.1 alw) hgv.2 g2.hw;exact fin _ st2 E1 TJ ys news _ fq Xe hlq hT _ Oi (by simp) E0 BH (by simp) (by simp) Dd hk
 cases hk;cases hk;cases hk;rename_i s0 st2 E1;split at hk;rename_i hee;subst hee;split at hk;rename_i hc;obtain⟨hT,hT'⟩:=hc;unfold room at hk;split at hk;rename_i Dd;rw[E1]at DW;have TJ:dH C g2 st2 a w [(a.eval s,.val false [.sl (.own tag) (.int .u8) xs]),(a.eval x,.val false [.str s0])]:=DW;obtain⟨fq,Xe,hnq,hlq⟩:=TJ.hands 1 _ _ rfl;have hcx:=ee Xe;obtain⟨news,E0,BH⟩:=adS (P:=P) (w:=w) s0 g2.hw;rw[<-hcx.1]at E0;have hl:(di s0).length=s0.length:=by simp[di]
 exact fin _ st2 E1 TJ (di s0) news _ fq Xe hlq hT _ (Pa hE hT') (by simp) E0 BH (by simp) (by simp) (by rw[hl];exact Dd) hk;cases hk;cases hk;cases hk;cases hk;cases hk;cases hk
end Go.Dn
