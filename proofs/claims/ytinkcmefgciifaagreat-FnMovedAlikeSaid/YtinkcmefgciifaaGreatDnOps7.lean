import Derived.Test.YtinkcmefgciifaaGreatDnOps6
/- Part 7: append. -/
namespace Go.Dn
open Go.RowKit
variable {P:Program} {C:Ctx} {st:AS} {a:Act} {w:World} {R:Type} {r:R}
variable {e:CT} {hw:Nat->Nat}
structure Src (P:Program) (w:World) (size:Nat) (u:Value) (m:Nat) (news:List Value):Prop where
 len:∀w1:World,(Builtin.lenOf u).run P w1=.ok m w1
 first:∀w1:World,w1.heap=w.heap->(Builtin.firstCells size m u).run P w1=.ok news.toArray w1
theorem Ug {t t' ty te:TypeId}(ht:P.underlying t=some (.slice te))(he:J0 P te e){dt:TypeDesc}(T7:P.underlying t'=some dt)(hdt:∀k,dt≠ .int k){v u:Value}{xs ys:ax e.D}{fp:fy}{news:iG}{xg:ax fy}(gO:fg hw w (.sl e) [v] xs fp)(FZ:Src P w e.size u ys.length news)(CC:kt hw w e news ys xg)(gY:∀b∈fp++xg.flatten,b<w.heap.size)(DA:(fp++xg.flatten).Nodup)(Ec:xs.length+ys.length<=1073741824): ∃v' w' hw' jZ,(Builtin.append_ #[t,t'] ty #[v,u]).run P w=.ok v' w'/\fg hw' w' (.sl e) [v'] (xs++ys) jZ/\Fr (λb=>b∈fp) w w'/\(∀b,b<w.heap.size->b∉fp->hw' b=hw b)/\ (∀b o x,o<hw b->w.cell? ⟨b,o,none⟩=some x->o<hw' b/\w'.cell? ⟨b,o,none⟩=some x)/\jZ.Nodup/\∀b∈jZ,b<w'.heap.size/\(b∈fp\/b∈xg.flatten\/w.heap.size<=b):=by
 obtain⟨⟨inf,z,Aw,tH,hby,hz,hzc⟩,_⟩:=he;have hzs:z.cells.size=e.size:=by rw[<-oT e,<-hzc];simp
 have Zk:=e.size_pos;have hnz:(match dt with| .int _=>true|_=>false)=false:=by cases dt<;>simp;exact absurd rfl (hdt _)
 have PB:=FZ.first w rfl
 have afn:=FZ.first w.drew rfl
 have hlen:=FZ.len;have IG:=CC.1;have h63:¬((xs.length+ys.length:Nat):Int)>IntKind.i64.max:=by
  have:IntKind.i64.max=9223372036854775807:=by decide
  omega
 have grow:∀(P5:iG)(LH:Nat)(fps:ax fy),(∀w1:World,w1.heap=w.heap->(Builtin.firstCells e.size xs.length v).run P w1=.ok P5.toArray w1)->(∃base,v=.slice base xs.length LH)->LH<xs.length+ys.length->
  kt hw w e P5 xs fps->(fps.flatten++xg.flatten).Nodup->(∀b∈fps.flatten,b∈fp)->
  ∃v' w' hw' jZ,(Builtin.append_ #[t,t'] ty #[v,u]).run P w=.ok v' w'/\fg hw' w' (.sl e) [v'] (xs++ys) jZ/\Fr (λb=>b∈fp) w w'/\(∀b,b<w.heap.size->b∉fp->hw' b=hw b)/\
  (∀b o x,o<hw b->w.cell? ⟨b,o,none⟩=some x->o<hw' b/\w'.cell? ⟨b,o,none⟩=some x)/\jZ.Nodup/\∀b∈jZ,b<w'.heap.size/\(b∈fp\/b∈xg.flatten\/w.heap.size<=b):=by
  intro P5 LH fps hold ajz FU Pz aos pt
  obtain⟨base,rfl⟩:=ajz
  have ajU:=hold w.drew rfl
  have gF:Builtin.nextslicecap (xs.length+ys.length) LH*inf.bytes<=281474976710656:=by refine growslice_fits FU ?_;have:(xs.length+ys.length)*inf.bytes<=1073741824*65536:=Nat.mul_le_mul Ec hby;omega
  have ed:(Builtin.append_ #[t,t'] ty #[.slice base xs.length LH,u]).run P w=
   .ok (.slice (some ⟨w.heap.size,0,none⟩) (xs.length+ys.length) (grownCap w (xs.length+ys.length) LH te))
    (w.drew.alloc (.cells (P5.toArray++news.toArray++Builtin.zeroCells z.cells (grownCap w (xs.length+ys.length) LH te-(xs.length+ys.length))) te)):=by
   have h1:¬(xs.length+ys.length<=LH):=by omega
   have h2:¬(281474976710656<Builtin.nextslicecap (xs.length+ys.length) LH*inf.bytes):=by omega
   simp only[Builtin.append_]
   simp only[underlying,Sem.run_bind,run_program,ht,T7,Result.andThen_ok,Sem.run_pure,sizeOf,typeInfo,Aw,tH,List.getElem?_toArray,cv,eM,hlen,aK,aY,bW,
    h1,h63,false_and,bQ,zeroValue,newRow]
   rw[aI (by simpa using h2)]
   simp only[Sem.run_bind,run_choose,Question.forced,aY,bW,Result.andThen_ok,run_program,Aw,run_askRoom,Sem.run_pure]
   have e1:=ajU
   have e2:=afn
   simp only[World.drew]at e1 e2
   simp only[e1,e2,Result.andThen_ok,hz,Sem.run_pure,run_newObj]
   rfl
  have yZ:=grownCap_ge w (xs.length+ys.length) LH te
  generalize grownCap w (xs.length+ys.length) LH te=nc at ed yZ
  have aoD:(Builtin.zeroCells z.cells (nc-(xs.length+ys.length))).size=(nc-(xs.length+ys.length))*e.size:=by rw[size_zeroCells,hzs]
  let iU:Array Value:=P5.toArray++news.toArray++Builtin.zeroCells z.cells (nc-(xs.length+ys.length))
  have hlo:=Pz.1
  have an8:iU.size=nc*e.size:=by show(P5.toArray++news.toArray++Builtin.zeroCells z.cells (nc-(xs.length+ys.length))).size=_;rw[Array.size_append,Array.size_append,aoD];simp only[List.size_toArray,hlo,IG,<-cB];congr 1;omega
  let hw':Nat->Nat:=λb=>if b=w.heap.size then(xs++ys).length*e.size else hw b
  have RX:(w.drew.alloc (.cells iU te)).heap[w.heap.size]?=some (.cells iU te (0,0)):=heap_alloc_new w.drew _
  have agJ:∀b,b<w.heap.size->(w.drew.alloc (.cells iU te)).heap[b]?=w.heap[b]?:=λb hb=>heap_alloc_old w.drew _ b hb
  have rK:iU.toList.take ((xs++ys).length*e.size)=P5++news:=by
   show(P5.toArray++news.toArray++Builtin.zeroCells z.cells (nc-(xs.length+ys.length))).toList.take _=_;rw[Array.toList_append,Array.toList_append];have:(P5++news).length=(xs++ys).length*e.size:=by simp only[ai,hlo,IG,cB]
   rw[<-this];exact List.take_left
  have ahE:∀b∈(fps++xg).flatten,b<w.heap.size:=by intro b hb;rw[dV,az]at hb;exact gY b (by rcases hb with hb|hb;exact bt _ (pt b hb);exact bj _ hb)
  refine⟨_,_,hw',w.heap.size::(fps++xg).flatten,ed,?_,?_,?_,?_,?_,?_⟩
  ·have:=Wn (hw:=hw') (o0:=0) (xs:=xs++ys) (cap:=nc) RX (by intro j _;simp) (by rw[cr];exact an8) (by simp;omega) (by simp[hw']) (fps:=fps++xg) (by rw[eZ,rK];refine(Pz.append CC).mono (λb hb=>?_);have gX:=ahE b hb;exact⟨agJ b gX,by simp[hw',gR gX]⟩)
   rw[ai]at this
   exact this
  ·exact(Fr.drew _ w).trans (Fr.alloc _ _ _) (λb _ hh=>hh)
  ·intro b hb _;simp[hw',gR hb]
  ·intro b o x ho hx
   have hb:b<w.heap.size:=World.block_lt_of_cell? w _ hx
   exact⟨by simp[hw',gR hb];exact ho,by rw[World.cell?_of_block (a:=⟨b,o,none⟩) (agJ b hb)];exact hx⟩
  ·refine dc.2 ⟨λhm=>Nat.lt_irrefl _ (ahE _ hm),?_⟩
   rw[dV];exact aos
  ·intro b hb
   rcases cn.1 hb with rfl|hb
   ·exact⟨by simp,.inr (.inr (aS _))⟩
   ·have gX:=ahE b hb
    refine⟨by simp;omega,?_⟩
    rw[dV,az]at hb
    rcases hb with hb|hb
    ·exact .inl (pt b hb)
    ·exact .inr (.inl hb)
 obtain⟨vv,hvv,ho⟩:=id gO;simp at hvv;subst hvv;rcases ho with⟨⟨ad,rfl⟩,rfl,rfl⟩|⟨b,o0,cap,arr,T,fr,fps,rfl,hb,rz,hs,hc,hh,rfl,hl,ho⟩;have aoh:∀w1:World,(Builtin.firstCells e.size ([]:ax e.D).length (.slice ad 0 0)).run P w1=.ok ([]:iG).toArray w1:=by intro w1;cases ad with|none=>simp[Builtin.firstCells]|some ad=>exact run_firstCells_some (P:=P) w1 e.size 0 ad 0 0 [] (by simp) (λj x hj=>by simp at hj)
 by_cases hm:ys.length=0;have hy:ys=[]:=bV hm;subst hy;refine⟨.slice ad 0 0,w,hw,[],?_,⟨_,rfl,.inl ⟨⟨_,rfl⟩,rfl,rfl⟩⟩,Fr.refl _ _,λ_ _ _=>rfl,λ_ _ _ ho hx=>⟨ho,hx⟩,by simp,by simp⟩;simp only[Builtin.append_];simp only[underlying,Sem.run_bind,run_program,ht,T7,Result.andThen_ok,Sem.run_pure,sizeOf,typeInfo,Aw,tH,List.getElem?_toArray,cv,eM,hlen,aY,bW,cg,bQ];simp only[eO]at PB;have ajR:news=[]:=bV (by rw[IG];simp);subst ajR;simp[PB];cases ad<;>simp[storeCells];refine grow [] 0 [] (λw1 _=>aoh w1) ⟨ad,by simp⟩ (by simp;omega) (kt.nil _ _ _) (by simpa using DA) (by simp);have Pz:=HT hs hc hl ho;have hln:o0+xs.length*e.size<=arr.size:=by rw[hs];exact Nat.add_le_add_left (cw _ hc) _
 have hol:((arr.toList.drop o0).take (xs.length*e.size)).length=xs.length*e.size:=Pz.1;by_cases acW:xs.length+ys.length<=cap;have gF:o0+xs.length*e.size+news.length<=arr.size:=by rw[IG,hs,fD,<-cB];exact Nat.add_le_add_left (cw _ acW) _
 have mF:=uU P b (o0+xs.length*e.size) T fr news 0 w arr hb rz (by simpa using gF) CC.mN;simp only[dT]at mF;have ed:(Builtin.append_ #[t,t'] ty #[.slice (some ⟨b,o0,none⟩) xs.length cap,u]).run P w=.ok (.slice (some ⟨b,o0,none⟩) (xs.length+ys.length) cap) (th w b (eF arr (o0+xs.length*e.size) news) T fr):=by simp only[Builtin.append_];simp only[underlying,Sem.run_bind,run_program,ht,T7,Result.andThen_ok,Sem.run_pure,sizeOf,typeInfo,Aw,tH,List.getElem?_toArray,cv,eM,hlen,aY,bW,cg,bQ,acW,PB,mV,mF]
 have Eb:=lP hb;rw[List.cons_append]at DA;have vd:b∉fps.flatten++xg.flatten:=(dc.1 DA).1;let hw':Nat->Nat:=λc=>if c=b then o0+(xs++ys).length*e.size else hw c
 refine⟨_,_,hw',b::(fps++xg).flatten,ed,?_,?_,?_,?_,?_,?_⟩;have rK:((eF arr (o0+xs.length*e.size) news).toList.drop o0).take ((xs++ys).length*e.size)=(arr.toList.drop o0).take (xs.length*e.size)++news:=by
  have h2:((arr.toList.drop o0).take (xs.length*e.size)++news).length=(xs++ys).length*e.size:=by simp only[ai,hol,IG,cB]
  have h3:(xs++ys).length*e.size=xs.length*e.size+news.length:=by rw[ai,cB,IG]
  apply cA;intro j;rw[jf];by_cases hj:j<(xs++ys).length*e.size;rw[aH hj,wP gF];by_cases h1:j<xs.length*e.size;rw[lv,bB (by omega),jf,aH h1];rw[zip,bm (by omega),hol];congr 1;omega;rw[aI hj,bn (by omega)]
 have:=Wn (hw:=hw') (w:=th w b (eF arr (o0+xs.length*e.size) news) T fr) (xs:=xs++ys) (cap:=cap) (fps:=fps++xg) (vD Eb) (λj hj=>rz j (by rwa[iz]at hj)) (by rw[iz];exact hs) (by simp;omega) (by simp[hw']) (by
  rw[rK];refine(Pz.append CC).mono (λc xz=>?_);have Al:c≠b:=by rintro rfl;exact vd (by rwa[dV]at xz)
  exact⟨mx Al,by simp[hw',Al]⟩)
 rw[ai]at this;exact this;exact⟨rfl,rfl,rfl,by rw[lz];exact aS _,λc _ xz=>mx (λe=>xz (by simp[e]))⟩;intro c _ xz;have Al:c≠b:=λe=>xz (by simp[e]);simp[hw',Al];intro c o x Js hx;by_cases hcb:c=b;subst hcb;rw[hh]at Js;refine⟨?_,?_⟩;simp only[hw',bQ,ai,cB];omega;rw[ox (vD Eb),<-cl,wP gF,lv,cl,<-ox hb];exact hx;exact⟨by simp[hw',hcb];exact Js,by rw[World.cell?_of_block (a:=⟨c,o,none⟩) (mx hcb)];exact hx⟩;refine dc.2 ⟨by rw[dV];exact vd,?_⟩;rw[dV];exact(dc.1 DA).2;intro c xz;rw[lz];rcases cn.1 xz with rfl|xz;exact⟨Eb,.inl (by simp)⟩;rw[dV,az]at xz;rcases xz with xz|xz;exact⟨gY c (by simp[xz]),.inl (by simp[xz])⟩;exact⟨gY c (by simp[xz]),.inr (.inl xz)⟩;refine grow ((arr.toList.drop o0).take (xs.length*e.size)) cap fps (λw1 hw1=>?_) ⟨_,rfl⟩ (by omega) Pz ?_ (λc xz=>by simp[xz]);refine run_firstCells_some (P:=P) w1 e.size xs.length ⟨b,o0,none⟩ xs.length cap _ hol (λj x hj=>?_);have hb1:w1.heap[b]?=some (.cells arr T fr):=by rw[hw1];exact hb
 rw[mV,ox hb1];rw[jf]at hj;split at hj;simpa using hj;cases hj;rw[List.cons_append]at DA;exact(dc.1 DA).2
def tz (w:World)(b o n:Nat):iG:=(List.range n).map λj=>(w.cell? ⟨b,o+j,none⟩).getD undef
theorem Yh {S:Nat->Nat->Prop}{u:Value}{ys:ax e.D}(h:jc w S (.sl e) [u] ys)(hf:e.flat=true)(hw:Nat->Nat): ∃news,Src P w e.size u ys.length news/\kt hw w e news ys (List.replicate ys.length []):=by
 obtain⟨v,hv,h⟩:=h;simp at hv;subst hv;rcases h with⟨⟨ad,rfl⟩,rfl⟩|⟨b,o,cap,rfl,hc,h⟩;cases ad with|none=>exact⟨[],⟨λ_=>rfl,λ_ _=>rfl⟩,kt.nil _ _ _⟩|some ad=>exact⟨[],⟨λ_=>rfl,λw1 _=>run_firstCells_some (P:=P) w1 e.size 0 ad 0 0 [] (by simp) (λj x hj=>by simp at hj)⟩,kt.nil _ _ _⟩
 have Au:∀j,j<ys.length*e.size->∃x,w.cell? ⟨b,o+j,none⟩=some x:=by
  intro j hj;have hi:j/e.size<ys.length:=by rw[Nat.div_lt_iff_lt_mul e.size_pos];exact hj
  obtain⟨cs,Hv,hr⟩:=h (j/e.size) _ (aq hi);have hm:j%e.size<cs.length:=by rw[jc.length hr];exact gk _ e.size_pos
  have:=(Hv (j%e.size) _ (aq hm)).2;rw[fD,Nat.mul_comm,Nat.div_add_mod]at this;exact⟨_,this⟩
 have gS:∀j x,(tz w b o (ys.length*e.size))[j]?=some x->w.cell? ⟨b,o+j,none⟩=some x:=by intro j x hx;simp only[tz,List.getElem?_map]at hx;rcases cd j (ys.length*e.size)with hj|hj;rw[List.getElem?_range hj]at hx;obtain⟨y,hy⟩:=Au j hj;simp[hy]at hx;rw[hy,hx];rw[bn (by simpa using hj)]at hx;cases hx
 have hlen:(tz w b o (ys.length*e.size)).length=ys.length*e.size:=by simp[tz]
 refine⟨tz w b o (ys.length*e.size),⟨λ_=>rfl,λw1 hw1=>?_⟩,⟨hlen,by simp,λi y f hy hf'=>?_⟩⟩;refine run_firstCells_some (P:=P) w1 e.size ys.length ⟨b,o,none⟩ ys.length cap _ hlen (λj x hj=>?_);rw[mV];have:=gS j x hj;simpa[World.cell?,hw1]using this;have hi:i<ys.length:=(aG.1 hy).1;have Bf:f=[]:=by rw[dX,aH hi]at hf';simpa using hf'.symm
 subst Bf;obtain⟨cs,Hv,hr⟩:=h i y hy;have hm:(i+1)*e.size<=ys.length*e.size:=cw _ hi;rw[cB,ff]at hm;have e1:((tz w b o (ys.length*e.size)).drop (i*e.size)).take e.size=cs:=by
  apply cA;intro j;rw[jf];have hcl:=jc.length hr;split;rename_i hj;have hjc:j<cs.length:=by omega
  have hx:=(Hv j _ (aq hjc)).2;have h2:(tz w b o (ys.length*e.size))[i*e.size+j]?=some cs[j]:=by simp only[tz,List.getElem?_map,List.getElem?_range (show i*e.size+j<ys.length*e.size by omega),de];rw[<-fD,hx];rfl
  rw[h2,aq hjc];rw[bn (by omega)]
 rw[e1];exact KC hr hf
theorem aga {u:Value}{ys:ax e.D}{fp:fy}(h:fg hw w (.sl e) [u] ys fp): ∃news xg,Src P w e.size u ys.length news/\kt hw w e news ys xg/\(∀b∈xg.flatten,b∈fp)/\(fp.Nodup->xg.flatten.Nodup):=by
 obtain⟨v,hv,h⟩:=h;simp at hv;subst hv;rcases h with⟨⟨ad,rfl⟩,rfl,rfl⟩|⟨b,o0,cap,arr,T,fr,fps,rfl,hb,rz,hs,hc,hh,rfl,hl,ho⟩;refine⟨[],[],⟨λ_=>rfl,λw1 _=>?_⟩,kt.nil _ _ _,by simp,by simp⟩;cases ad with|none=>rfl|some ad=>exact run_firstCells_some (P:=P) w1 e.size 0 ad 0 0 [] (by simp) (λj x hj=>by simp at hj)
 have Pz:=HT hs hc hl ho;refine⟨_,fps,⟨λ_=>rfl,λw1 hw1=>?_⟩,Pz,λc xz=>by simp[xz],λhn=>(dc.1 hn).2⟩;refine run_firstCells_some (P:=P) w1 e.size ys.length ⟨b,o0,none⟩ ys.length cap _ Pz.1 (λj x hj=>?_);have hb1:w1.heap[b]?=some (.cells arr T fr):=by rw[hw1];exact hb
 rw[mV,ox hb1];rw[jf]at hj;split at hj;simpa using hj;cases hj
theorem agb (s:ax UInt8)(hw:Nat->Nat):∃news,Src P w (CT.size (.int .u8)) (.string ⟨s.toArray⟩) (dk s).length news/\kt hw w (.int .u8) news (dk s) (List.replicate (dk s).length []):=by
 have hl:(dk s).length=s.length:=by simp[dk]
 refine⟨(dk s).map (Value.int .u8),⟨λw1=>by simp[Builtin.lenOf,wc,hl],λw1 _=>?_⟩,⟨by simp[CT.size],by simp,λi y f hy hf=>?_⟩⟩;have:(ByteArray.mk s.toArray).extract 0 s.length=ByteArray.mk s.toArray:=by rw[extract_mk];simp
 simp[Builtin.firstCells,this,dk];have hi:i<(dk s).length:=(aG.1 hy).1;have hf':f=[]:=by rw[dX,aH hi]at hf;simpa using hf.symm
 subst hf';refine⟨?_,rfl⟩;apply cA;intro j;rw[jf];simp only[CT.size,mW];cases j with|zero=>simp[hy]|succ j=>simp
theorem Rk {o:Oper}{s x:Operand}{t t':TypeId}(ho:o.op=.call {callee:=.builtin .append,args:=#[s,x],argTypes:=#[t,t']}){v:Value}{w':World}(h:(Builtin.append_ #[t,t'] o.type #[a.eval s,a.eval x]).run P w=.ok v w'):(execOp a.eval o).run P w=.ok (.value v) w':=by
 have e1:(#[s,x]:Array Operand).map a.eval=#[a.eval s,a.eval x]:=by simp
 simp only[execOp,ho,resolve,e1,Sem.run_bind,Sem.run_pure,Result.andThen_ok,invoke,builtin];show((Builtin.append_ #[t,t'] o.type #[a.eval s,a.eval x]).run P w).andThen _=_;rw[h];rfl
theorem QU {E:Env}(hE:jk P E.ty){o:Oper}{args:Array Operand}{ts:Array TypeId}(ho:o.op=.call {callee:=.builtin .append,args,argTypes:=ts})(h:ij C st a w){K:AS->ay R}(hk:vG E o ts.toList args.toList st K=some r):mz P C o a w K r:=by
 obtain⟨g,hg⟩:=h;unfold vG at hk;split at hk;rename_i t t' s x su fT;have ea:args=#[s,x]:=by apply eU;simpa using fT
 have et:ts=#[t,t']:=by apply eU;simpa using su
 subst ea;subst et;split at hk;rename_i tag e xs st1 PH;obtain⟨g1,hg1⟩:=hg.take s;rw[PH]at hg1;simp only[cG]at hg1;obtain⟨g2,ET⟩:=hg1.take x
 have fin:∀(u:AV)(st2:AS),st1.take x=(u,st2)->dP C g2 st2 a w [(a.eval s,.val false [.sl (.own tag) e xs]),(a.eval x,u)]->∀(ys:ax e.D)(news:iG)(xg:ax fy)(fq:fy),
  fX (cM C g2 st2 w) (a.eval x) u fq->(∀b∈fq,g2.ej b=some (.hand 1))->E.sl t=some e->∀dt,P.underlying t'=some dt->(∀k,dt≠ .int k)->
  Src P w e.size (a.eval x) ys.length news->kt g2.hw w e news ys xg->(∀b∈xg.flatten,b∈fq)->xg.flatten.Nodup->xs.length+ys.length<=1073741824->
  K (st2.pw o.dst e (xs++ys))=some r->mz P C o a w K r:=by
  intro u st2 _ ET ys news xg fq _ hlq hT dt hdt aoc FZ CC pt DA Ec PE
  obtain⟨fp,hrs,aou,acP⟩:=ET.hands 0 _ _ rfl
  have gO:=(eC hrs).1
  obtain⟨te,hu,he⟩:=C4 hE hT
  have gY:∀b∈fp++xg.flatten,b<w.heap.size:=by intro b hb;rcases az.1 hb with hb|hb;exact(ET.fY b _ (acP b hb)).1;exact(ET.fY b _ (hlq b (pt b hb))).1
  have aoq:(fp++xg.flatten).Nodup:=by refine aJ.2 ⟨aou,DA,?_⟩;rintro b hb c hc rfl;have h1:=acP b hb;rw[hlq b (pt b hc)]at h1;cases h1
  obtain⟨v',w',hw',jZ,ed,FW,jq,Dz,FX,PF,Hw⟩:=Ug (ty:=o.type) hu he hdt aoc gO FZ CC gY aoq Ec
  refine⟨v',w',_,.inl (Rk ho ed),?_,PE⟩
  refine ET.LC o.dst (hw':=hw') (fp:=jZ) ⟨jq.os,jq.tape,jq.output,jq.size,λb hb hh=>jq.block b hb (λhm=>hh (by rw[acP b hm];rfl))⟩ ?_ FX FW PF ?_
  ·intro b y hb hh
   refine Dz b (ET.fY b y hb).1 (λhm=>hh ?_)
   rw[<-hb,acP b hm];rfl
  ·intro b hb
   obtain⟨h1,h2⟩:=Hw b hb
   refine⟨h1,?_⟩
   rcases h2 with h2|h2|h2
   ·exact .inl (by rw[acP b h2];rfl)
   ·exact .inl (by rw[hlq b (pt b h2)];rfl)
   ·exact .inr h2
 split at hk;rename_i fl e' ys st2 F0;split at hk;rename_i hee;subst hee;split at hk;rename_i hc;obtain⟨hT,hT',hgv⟩:=hc;unfold room at hk;split at hk;rename_i Ec;rw[F0]at ET;have Vs:dP C g2 st2 a w [(a.eval s,.val false [.sl (.own tag) e' xs]),(a.eval x,.val false [.sl fl e' ys])]:=ET;obtain⟨fq,Zm,hnq,hlq⟩:=Vs.hands 1 _ _ rfl;obtain⟨te',PI,_⟩:=C4 hE hT';have xh:st2.ep=st.ep:=by have h1:= @QE st s;have h2:= @QE st1 x;rw[PH]at h1;rw[F0]at h2;exact h2.trans h1
 have hcx:=eC Zm;cases fl with
 |nest _ _ _ _ _ _=>simp[qd.qj]at hgv
 |part _ _ _ _=>simp[qd.qj]at hgv
 |fi _ _ _=>simp[qd.qj]at hgv
 |own tg=>obtain⟨news,xg,FZ,CC,pt,DA⟩:=aga (P:=P) hcx.1;exact fin _ st2 F0 Vs ys news xg fq Zm hlq hT _ PI (by simp) FZ CC pt (DA hnq) Ec hk
 |arg _=>obtain⟨news,FZ,CC⟩:=Yh (P:=P) hcx.2 (by simpa[qd.qj]using hgv) g2.hw;exact fin _ st2 F0 Vs ys news _ fq Zm hlq hT _ PI (by simp) FZ CC (by simp) (by simp) Ec hk
 |loc ep pv=>
  simp only[qd.qj,ae,aV]at hgv;have aof:ep=(cM C g2 st2 w).ep:=by show ep=st2.ep;rw[xh];exact hgv.1
  obtain⟨news,FZ,CC⟩:=Yh (P:=P) (hcx.2.2.2.1 aof) hgv.2 g2.hw;exact fin _ st2 F0 Vs ys news _ fq Zm hlq hT _ PI (by simp) FZ CC (by simp) (by simp) Ec hk
 cases hk;cases hk;cases hk;rename_i s0 st2 F0;split at hk;rename_i hee;subst hee;split at hk;rename_i hc;obtain⟨hT,hT'⟩:=hc;unfold room at hk;split at hk;rename_i Ec;rw[F0]at ET;have Vs:dP C g2 st2 a w [(a.eval s,.val false [.sl (.own tag) (.int .u8) xs]),(a.eval x,.val false [.str s0])]:=ET;obtain⟨fq,Zm,hnq,hlq⟩:=Vs.hands 1 _ _ rfl;have hcx:=eC Zm;obtain⟨news,FZ,CC⟩:=agb (P:=P) (w:=w) s0 g2.hw;rw[<-hcx.1]at FZ;have hl:(dk s0).length=s0.length:=by simp[dk]
 exact fin _ st2 F0 Vs (dk s0) news _ fq Zm hlq hT _ (Qw hE hT') (by simp) FZ CC (by simp) (by simp) (by rw[hl];exact Ec) hk;cases hk;cases hk;cases hk;cases hk;cases hk;cases hk
end Go.Dn
