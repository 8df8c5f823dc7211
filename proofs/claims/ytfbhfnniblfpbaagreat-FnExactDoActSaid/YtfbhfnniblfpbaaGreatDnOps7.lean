import Derived.Test.YtfbhfnniblfpbaaGreatDnOps6
/- Part 7: append. -/
namespace Go.Dn
open Go.RowKit
variable {P:Program} {C:Ctx} {st:AS} {a:Act} {w:World} {R:Type} {r:R}
variable {e:CT} {hw:Nat->Nat}
structure Src (P:Program) (w:World) (size:Nat) (u:Value) (m:Nat) (news:List Value):Prop where
 len:∀w1:World,(Builtin.lenOf u).run P w1=.ok m w1
 first:∀w1:World,w1.heap=w.heap->(Builtin.firstCells size m u).run P w1=.ok news.toArray w1
theorem Xq {t t' ty te:TypeId}(ht:P.underlying t=some (.slice te))(he:NF P te e){dt:TypeDesc}(Up:P.underlying t'=some dt)(hdt:∀k,dt≠ .int k){v u:Value}{xs ys:ar e.D}{fp:dV}{news:ic}{Am:ar dV}(eR:eo hw w (.sl e) [v] xs fp)(J2:Src P w e.size u ys.length news)(GS:kG hw w e news ys Am)(gV:∀b∈fp++Am.flatten,b<w.heap.size)(ES:(fp++Am.flatten).Nodup)(Iu:xs.length+ys.length<=1073741824): ∃v' w' hw' iu,(Builtin.append_ #[t,t'] ty #[v,u]).run P w=.ok v' w'/\eo hw' w' (.sl e) [v'] (xs++ys) iu/\Fr (λb=>b∈fp) w w'/\(∀b,b<w.heap.size->b∉fp->hw' b=hw b)/\ (∀b o x,o<hw b->w.cell? ⟨b,o,none⟩=some x->o<hw' b/\w'.cell? ⟨b,o,none⟩=some x)/\iu.Nodup/\∀b∈iu,b<w'.heap.size/\(b∈fp\/b∈Am.flatten\/w.heap.size<=b):=by
 obtain⟨⟨inf,z,Ea,tu,hby,hz,hzc⟩,_⟩:=he;have hzs:z.cells.size=e.size:=by rw[<-pH e,<-hzc];simp
 have abl:=e.size_pos;have hnz:(match dt with| .int _=>true|_=>false)=false:=by cases dt<;>simp;exact absurd rfl (hdt _)
 have Ou:=J2.first w rfl
 have agk:=J2.first w.drew rfl
 have hlen:=J2.len;have JD:=GS.1;have h63:¬((xs.length+ys.length:Nat):Int)>IntKind.i64.max:=by
  have:IntKind.i64.max=9223372036854775807:=by decide
  omega
 have grow:∀(TE:ic)(Pk:Nat)(fps:ar dV),(∀w1:World,w1.heap=w.heap->(Builtin.firstCells e.size xs.length v).run P w1=.ok TE.toArray w1)->(∃base,v=.slice base xs.length Pk)->Pk<xs.length+ys.length->
  kG hw w e TE xs fps->(fps.flatten++Am.flatten).Nodup->(∀b∈fps.flatten,b∈fp)->
  ∃v' w' hw' iu,(Builtin.append_ #[t,t'] ty #[v,u]).run P w=.ok v' w'/\eo hw' w' (.sl e) [v'] (xs++ys) iu/\Fr (λb=>b∈fp) w w'/\(∀b,b<w.heap.size->b∉fp->hw' b=hw b)/\
  (∀b o x,o<hw b->w.cell? ⟨b,o,none⟩=some x->o<hw' b/\w'.cell? ⟨b,o,none⟩=some x)/\iu.Nodup/\∀b∈iu,b<w'.heap.size/\(b∈fp\/b∈Am.flatten\/w.heap.size<=b):=by
  intro TE Pk fps hold aiQ Ie S2 aqg pZ
  obtain⟨base,rfl⟩:=aiQ
  have ai8:=hold w.drew rfl
  have gF:Builtin.nextslicecap (xs.length+ys.length) Pk*inf.bytes<=281474976710656:=by refine growslice_fits Ie ?_;have:(xs.length+ys.length)*inf.bytes<=1073741824*65536:=Nat.mul_le_mul Iu hby;omega
  have dI:(Builtin.append_ #[t,t'] ty #[.slice base xs.length Pk,u]).run P w=
   .ok (.slice (some ⟨w.heap.size,0,none⟩) (xs.length+ys.length) (grownCap w (xs.length+ys.length) Pk te))
    (w.drew.alloc (.cells (TE.toArray++news.toArray++Builtin.zeroCells z.cells (grownCap w (xs.length+ys.length) Pk te-(xs.length+ys.length))) te)):=by
   have h1:¬(xs.length+ys.length<=Pk):=by omega
   have h2:¬(281474976710656<Builtin.nextslicecap (xs.length+ys.length) Pk*inf.bytes):=by omega
   simp only[Builtin.append_]
   simp only[underlying,Sem.run_bind,run_program,ht,Up,Result.andThen_ok,Sem.run_pure,sizeOf,typeInfo,Ea,tu,List.getElem?_toArray,cq,eG,hlen,aP,aY,cc,
    h1,h63,false_and,bL,zeroValue,newRow]
   rw[aF (by simpa using h2)]
   simp only[Sem.run_bind,run_choose,Question.forced,aY,cc,Result.andThen_ok,run_program,Ea,run_askRoom,Sem.run_pure]
   have e1:=ai8
   have e2:=agk
   simp only[World.drew]at e1 e2
   simp only[e1,e2,Result.andThen_ok,hz,Sem.run_pure,run_newObj]
   rfl
  have BD:=grownCap_ge w (xs.length+ys.length) Pk te
  generalize grownCap w (xs.length+ys.length) Pk te=nc at dI BD
  have aqr:(Builtin.zeroCells z.cells (nc-(xs.length+ys.length))).size=(nc-(xs.length+ys.length))*e.size:=by rw[size_zeroCells,hzs]
  let iV:Array Value:=TE.toArray++news.toArray++Builtin.zeroCells z.cells (nc-(xs.length+ys.length))
  have hlo:=S2.1
  have apW:iV.size=nc*e.size:=by show(TE.toArray++news.toArray++Builtin.zeroCells z.cells (nc-(xs.length+ys.length))).size=_;rw[Array.size_append,Array.size_append,aqr];simp only[List.size_toArray,hlo,JD,<-cn];congr 1;omega
  let hw':Nat->Nat:=λb=>if b=w.heap.size then(xs++ys).length*e.size else hw b
  have Vj:(w.drew.alloc (.cells iV te)).heap[w.heap.size]?=some (.cells iV te (0,0)):=heap_alloc_new w.drew _
  have ahu:∀b,b<w.heap.size->(w.drew.alloc (.cells iV te)).heap[b]?=w.heap[b]?:=λb hb=>heap_alloc_old w.drew _ b hb
  have tD:iV.toList.take ((xs++ys).length*e.size)=TE++news:=by
   show(TE.toArray++news.toArray++Builtin.zeroCells z.cells (nc-(xs.length+ys.length))).toList.take _=_;rw[Array.toList_append,Array.toList_append];have:(TE++news).length=(xs++ys).length*e.size:=by simp only[au,hlo,JD,cn]
   rw[<-this];exact List.take_left
  have ahZ:∀b∈(fps++Am).flatten,b<w.heap.size:=by intro b hb;rw[dM,az]at hb;exact gV b (by rcases hb with hb|hb;exact bg _ (pZ b hb);exact ba _ hb)
  refine⟨_,_,hw',w.heap.size::(fps++Am).flatten,dI,?_,?_,?_,?_,?_,?_⟩
  ·have:=YT (hw:=hw') (o0:=0) (xs:=xs++ys) (cap:=nc) Vj (by intro j _;simp) (by rw[cm];exact apW) (by simp;omega) (by simp[hw']) (fps:=fps++Am) (by rw[fa,tD];refine(S2.append GS).mono (λb hb=>?_);have gH:=ahZ b hb;exact⟨ahu b gH,by simp[hw',gW gH]⟩)
   rw[au]at this
   exact this
  ·exact(Fr.drew _ w).trans (Fr.alloc _ _ _) (λb _ hh=>hh)
  ·intro b hb _;simp[hw',gW hb]
  ·intro b o x ho hx
   have hb:b<w.heap.size:=World.block_lt_of_cell? w _ hx
   exact⟨by simp[hw',gW hb];exact ho,by rw[World.cell?_of_block (a:=⟨b,o,none⟩) (ahu b hb)];exact hx⟩
  ·refine cP.2 ⟨λhm=>nw _ (ahZ _ hm),?_⟩
   rw[dM];exact aqg
  ·intro b hb
   rcases cv.1 hb with rfl|hb
   ·exact⟨by simp,.inr (.inr (aU _))⟩
   ·have gH:=ahZ b hb
    refine⟨by simp;omega,?_⟩
    rw[dM,az]at hb
    rcases hb with hb|hb
    ·exact .inl (pZ b hb)
    ·exact .inr (.inl hb)
 obtain⟨vv,hvv,ho⟩:=id eR;simp at hvv;subst hvv;rcases ho with⟨⟨ad,rfl⟩,rfl,rfl⟩|⟨b,o0,cap,arr,T,fr,fps,rfl,hb,qS,hs,hc,hh,rfl,hl,ho⟩;have ap6:∀w1:World,(Builtin.firstCells e.size ([]:ar e.D).length (.slice ad 0 0)).run P w1=.ok ([]:ic).toArray w1:=by intro w1;cases ad with|none=>simp[Builtin.firstCells]|some ad=>exact run_firstCells_some (P:=P) w1 e.size 0 ad 0 0 [] (by simp) (λj x hj=>by simp at hj)
 by_cases hm:ys.length=0;have hy:ys=[]:=cz hm;subst hy;refine⟨.slice ad 0 0,w,hw,[],?_,⟨_,rfl,.inl ⟨⟨_,rfl⟩,rfl,rfl⟩⟩,Fr.refl _ _,λ_ _ _=>rfl,λ_ _ _ ho hx=>⟨ho,hx⟩,by simp,by simp⟩;simp only[Builtin.append_];simp only[underlying,Sem.run_bind,run_program,ht,Up,Result.andThen_ok,Sem.run_pure,sizeOf,typeInfo,Ea,tu,List.getElem?_toArray,cq,eG,hlen,aY,cc,cf,bL];simp only[eh]at Ou;have ai5:news=[]:=cz (by rw[JD];simp);subst ai5;simp[Ou];cases ad<;>simp[storeCells];refine grow [] 0 [] (λw1 _=>ap6 w1) ⟨ad,by simp⟩ (by simp;omega) (kG.nil _ _ _) (by simpa using ES) (by simp);have S2:=LF hs hc hl ho;have hln:o0+xs.length*e.size<=arr.size:=by rw[hs];exact Nat.add_le_add_left (bZ _ hc) _
 have hol:((arr.toList.drop o0).take (xs.length*e.size)).length=xs.length*e.size:=S2.1;by_cases ael:xs.length+ys.length<=cap;have gF:o0+xs.length*e.size+news.length<=arr.size:=by rw[JD,hs,fE,<-cn];exact Nat.add_le_add_left (bZ _ ael) _
 have lE:=xI P b (o0+xs.length*e.size) T fr news 0 w arr hb qS (by simpa using gF) GS.nm;simp only[dL]at lE;have dI:(Builtin.append_ #[t,t'] ty #[.slice (some ⟨b,o0,none⟩) xs.length cap,u]).run P w=.ok (.slice (some ⟨b,o0,none⟩) (xs.length+ys.length) cap) (vo w b (eC arr (o0+xs.length*e.size) news) T fr):=by simp only[Builtin.append_];simp only[underlying,Sem.run_bind,run_program,ht,Up,Result.andThen_ok,Sem.run_pure,sizeOf,typeInfo,Ea,tu,List.getElem?_toArray,cq,eG,hlen,aY,cc,cf,bL,ael,Ou,nv,lE]
 have Ir:=mn hb;rw[List.cons_append]at ES;have tc:b∉fps.flatten++Am.flatten:=(cP.1 ES).1;let hw':Nat->Nat:=λc=>if c=b then o0+(xs++ys).length*e.size else hw c
 refine⟨_,_,hw',b::(fps++Am).flatten,dI,?_,?_,?_,?_,?_,?_⟩;have tD:((eC arr (o0+xs.length*e.size) news).toList.drop o0).take ((xs++ys).length*e.size)=(arr.toList.drop o0).take (xs.length*e.size)++news:=by
  have h2:((arr.toList.drop o0).take (xs.length*e.size)++news).length=(xs++ys).length*e.size:=by simp only[au,hol,JD,cn]
  have h3:(xs++ys).length*e.size=xs.length*e.size+news.length:=by rw[au,cn,JD]
  apply cL;intro j;rw[jh];by_cases hj:j<(xs++ys).length*e.size;rw[aG hj,zV gF];by_cases h1:j<xs.length*e.size;rw[mG,bw (by omega),jh,aG h1];rw[zip,bq (by omega),hol];congr 1;omega;rw[aF hj,bH (by omega)]
 have:=YT (hw:=hw') (w:=vo w b (eC arr (o0+xs.length*e.size) news) T fr) (xs:=xs++ys) (cap:=cap) (fps:=fps++Am) (yr Ir) (λj hj=>qS j (by rwa[iC]at hj)) (by rw[iC];exact hs) (by simp;omega) (by simp[hw']) (by
  rw[tD];refine(S2.append GS).mono (λc DX=>?_);have ET:c≠b:=by rintro rfl;exact tc (by rwa[dM]at DX)
  exact⟨mW ET,by simp[hw',ET]⟩)
 rw[au]at this;exact this;exact⟨rfl,rfl,rfl,by rw[lS];exact aU _,λc _ DX=>mW (λe=>DX (by simp[e]))⟩;intro c _ DX;have ET:c≠b:=λe=>DX (by simp[e]);simp[hw',ET];intro c o x MV hx;by_cases hcb:c=b;subst hcb;rw[hh]at MV;refine⟨?_,?_⟩;simp only[hw',bL,au,cn];omega;rw[mX (yr Ir),<-cg,zV gF,mG,cg,<-mX hb];exact hx;exact⟨by simp[hw',hcb];exact MV,by rw[World.cell?_of_block (a:=⟨c,o,none⟩) (mW hcb)];exact hx⟩;refine cP.2 ⟨by rw[dM];exact tc,?_⟩;rw[dM];exact(cP.1 ES).2;intro c DX;rw[lS];rcases cv.1 DX with rfl|DX;exact⟨Ir,.inl (by simp)⟩;rw[dM,az]at DX;rcases DX with DX|DX;exact⟨gV c (by simp[DX]),.inl (by simp[DX])⟩;exact⟨gV c (by simp[DX]),.inr (.inl DX)⟩;refine grow ((arr.toList.drop o0).take (xs.length*e.size)) cap fps (λw1 hw1=>?_) ⟨_,rfl⟩ (by omega) S2 ?_ (λc DX=>by simp[DX]);refine run_firstCells_some (P:=P) w1 e.size xs.length ⟨b,o0,none⟩ xs.length cap _ hol (λj x hj=>?_);have Z5:w1.heap[b]?=some (.cells arr T fr):=by rw[hw1];exact hb
 rw[nv,mX Z5];rw[jh]at hj;split at hj;simpa using hj;cases hj;rw[List.cons_append]at ES;exact(cP.1 ES).2
def vG (w:World)(b o n:Nat):ic:=(List.range n).map λj=>(w.cell? ⟨b,o+j,none⟩).getD undef
theorem aaC {S:Nat->Nat->Prop}{u:Value}{ys:ar e.D}(h:jd w S (.sl e) [u] ys)(hf:e.flat=true)(hw:Nat->Nat): ∃news,Src P w e.size u ys.length news/\kG hw w e news ys (List.replicate ys.length []):=by
 obtain⟨v,hv,h⟩:=h;simp at hv;subst hv;rcases h with⟨⟨ad,rfl⟩,rfl⟩|⟨b,o,cap,rfl,hc,h⟩;cases ad with|none=>exact⟨[],⟨λ_=>rfl,λ_ _=>rfl⟩,kG.nil _ _ _⟩|some ad=>exact⟨[],⟨λ_=>rfl,λw1 _=>run_firstCells_some (P:=P) w1 e.size 0 ad 0 0 [] (by simp) (λj x hj=>by simp at hj)⟩,kG.nil _ _ _⟩
 have AI:∀j,j<ys.length*e.size->∃x,w.cell? ⟨b,o+j,none⟩=some x:=by
  intro j hj;have hi:j/e.size<ys.length:=by rw[Nat.div_lt_iff_lt_mul e.size_pos];exact hj
  obtain⟨cs,Li,hr⟩:=h (j/e.size) _ (al hi);have hm:j%e.size<cs.length:=by rw[jd.length hr];exact Nat.mod_lt _ e.size_pos
  have:=(Li (j%e.size) _ (al hm)).2;rw[fE,Nat.mul_comm,Nat.div_add_mod]at this;exact⟨_,this⟩
 have gX:∀j x,(vG w b o (ys.length*e.size))[j]?=some x->w.cell? ⟨b,o+j,none⟩=some x:=by intro j x hx;simp only[vG,List.getElem?_map]at hx;rcases bQ j (ys.length*e.size)with hj|hj;rw[List.getElem?_range hj]at hx;obtain⟨y,hy⟩:=AI j hj;simp[hy]at hx;rw[hy,hx];rw[bH (by simpa using hj)]at hx;cases hx
 have hlen:(vG w b o (ys.length*e.size)).length=ys.length*e.size:=by simp[vG]
 refine⟨vG w b o (ys.length*e.size),⟨λ_=>rfl,λw1 hw1=>?_⟩,⟨hlen,by simp,λi y f hy hf'=>?_⟩⟩;refine run_firstCells_some (P:=P) w1 e.size ys.length ⟨b,o,none⟩ ys.length cap _ hlen (λj x hj=>?_);rw[nv];have:=gX j x hj;simpa[World.cell?,hw1]using this;have hi:i<ys.length:=(aD.1 hy).1;have HM:f=[]:=by rw[dk,aG hi]at hf';simpa using hf'.symm
 subst HM;obtain⟨cs,Li,hr⟩:=h i y hy;have hm:(i+1)*e.size<=ys.length*e.size:=bZ _ hi;rw[cn,dN]at hm;have e1:((vG w b o (ys.length*e.size)).drop (i*e.size)).take e.size=cs:=by
  apply cL;intro j;rw[jh];have hcl:=jd.length hr;split;rename_i hj;have hjc:j<cs.length:=by omega
  have hx:=(Li j _ (al hjc)).2;have h2:(vG w b o (ys.length*e.size))[i*e.size+j]?=some cs[j]:=by simp only[vG,List.getElem?_map,List.getElem?_range (show i*e.size+j<ys.length*e.size by omega),dg];rw[<-fE,hx];rfl
  rw[h2,al hjc];rw[bH (by omega)]
 rw[e1];exact Of hr hf
theorem agZ {u:Value}{ys:ar e.D}{fp:dV}(h:eo hw w (.sl e) [u] ys fp): ∃news Am,Src P w e.size u ys.length news/\kG hw w e news ys Am/\(∀b∈Am.flatten,b∈fp)/\(fp.Nodup->Am.flatten.Nodup):=by
 obtain⟨v,hv,h⟩:=h;simp at hv;subst hv;rcases h with⟨⟨ad,rfl⟩,rfl,rfl⟩|⟨b,o0,cap,arr,T,fr,fps,rfl,hb,qS,hs,hc,hh,rfl,hl,ho⟩;refine⟨[],[],⟨λ_=>rfl,λw1 _=>?_⟩,kG.nil _ _ _,by simp,by simp⟩;cases ad with|none=>rfl|some ad=>exact run_firstCells_some (P:=P) w1 e.size 0 ad 0 0 [] (by simp) (λj x hj=>by simp at hj)
 have S2:=LF hs hc hl ho;refine⟨_,fps,⟨λ_=>rfl,λw1 hw1=>?_⟩,S2,λc DX=>by simp[DX],λhn=>(cP.1 hn).2⟩;refine run_firstCells_some (P:=P) w1 e.size ys.length ⟨b,o0,none⟩ ys.length cap _ S2.1 (λj x hj=>?_);have Z5:w1.heap[b]?=some (.cells arr T fr):=by rw[hw1];exact hb
 rw[nv,mX Z5];rw[jh]at hj;split at hj;simpa using hj;cases hj
theorem ag3 (s:ar UInt8)(hw:Nat->Nat):∃news,Src P w (CT.size (.int .u8)) (.string ⟨s.toArray⟩) (dm s).length news/\kG hw w (.int .u8) news (dm s) (List.replicate (dm s).length []):=by
 have hl:(dm s).length=s.length:=by simp[dm]
 refine⟨(dm s).map (Value.int .u8),⟨λw1=>by simp[Builtin.lenOf,yX,hl],λw1 _=>?_⟩,⟨by simp[CT.size],by simp,λi y f hy hf=>?_⟩⟩;have:(ByteArray.mk s.toArray).extract 0 s.length=ByteArray.mk s.toArray:=by rw[extract_mk];simp
 simp[Builtin.firstCells,this,dm];have hi:i<(dm s).length:=(aD.1 hy).1;have hf':f=[]:=by rw[dk,aG hi]at hf;simpa using hf.symm
 subst hf';refine⟨?_,rfl⟩;apply cL;intro j;rw[jh];simp only[CT.size,ny];cases j with|zero=>simp[hy]|succ j=>simp
theorem UU {o:Oper}{s x:Operand}{t t':TypeId}(ho:o.op=.call {callee:=.builtin .append,args:=#[s,x],argTypes:=#[t,t']}){v:Value}{w':World}(h:(Builtin.append_ #[t,t'] o.type #[a.eval s,a.eval x]).run P w=.ok v w'):(execOp a.eval o).run P w=.ok (.value v) w':=by
 have e1:(#[s,x]:Array Operand).map a.eval=#[a.eval s,a.eval x]:=by simp
 simp only[execOp,ho,resolve,e1,Sem.run_bind,Sem.run_pure,Result.andThen_ok,invoke,builtin];show((Builtin.append_ #[t,t'] o.type #[a.eval s,a.eval x]).run P w).andThen _=_;rw[h];rfl
theorem UA {E:Env}(hE:jm P E.ty){o:Oper}{args:Array Operand}{ts:Array TypeId}(ho:o.op=.call {callee:=.builtin .append,args,argTypes:=ts})(h:nt C st a w){K:AS->aw R}(hk:yt E o ts.toList args.toList st K=some r):mZ P C o a w K r:=by
 obtain⟨g,hg⟩:=h;unfold yt at hk;split at hk;rename_i t t' s x qT fb;have ea:args=#[s,x]:=by apply ef;simpa using fb
 have et:ts=#[t,t']:=by apply ef;simpa using qT
 subst ea;subst et;split at hk;rename_i tag e xs st1 Tc;obtain⟨g1,hg1⟩:=hg.take s;rw[Tc]at hg1;simp only[bR]at hg1;obtain⟨g2,Jf⟩:=hg1.take x
 have fin:∀(u:AV)(st2:AS),st1.take x=(u,st2)->dw C g2 st2 a w [(a.eval s,.val false [.sl (.own tag) e xs]),(a.eval x,u)]->∀(ys:ar e.D)(news:ic)(Am:ar dV)(fq:dV),
  fL (cy C g2 st2 w) (a.eval x) u fq->(∀b∈fq,g2.dJ b=some (.hand 1))->E.sl t=some e->∀dt,P.underlying t'=some dt->(∀k,dt≠ .int k)->
  Src P w e.size (a.eval x) ys.length news->kG g2.hw w e news ys Am->(∀b∈Am.flatten,b∈fq)->Am.flatten.Nodup->xs.length+ys.length<=1073741824->
  K (st2.qa o.dst e (xs++ys))=some r->mZ P C o a w K r:=by
  intro u st2 _ Jf ys news Am fq _ hlq hT dt hdt ap1 J2 GS pZ ES Iu S4
  obtain⟨fp,hrs,aqi,aeb⟩:=Jf.hands 0 _ _ rfl
  have eR:=(dQ hrs).1
  obtain⟨te,hu,he⟩:=Hj hE hT
  have gV:∀b∈fp++Am.flatten,b<w.heap.size:=by intro b hb;rcases az.1 hb with hb|hb;exact(Jf.fA b _ (aeb b hb)).1;exact(Jf.fA b _ (hlq b (pZ b hb))).1
  have aqe:(fp++Am.flatten).Nodup:=by refine aB.2 ⟨aqi,ES,?_⟩;rintro b hb c hc rfl;have h1:=aeb b hb;rw[hlq b (pZ b hc)]at h1;cases h1
  obtain⟨v',w',hw',iu,dI,Eb,gM,BX,JY,S6,Lj⟩:=Xq (ty:=o.type) hu he hdt ap1 eR J2 GS gV aqe Iu
  refine⟨v',w',_,.inl (UU ho dI),?_,S4⟩
  refine Jf.Pe o.dst (hw':=hw') (fp:=iu) ⟨gM.os,gM.tape,gM.output,gM.size,λb hb hh=>gM.block b hb (λhm=>hh (by rw[aeb b hm];rfl))⟩ ?_ JY Eb S6 ?_
  ·intro b y hb hh
   refine BX b (Jf.fA b y hb).1 (λhm=>hh ?_)
   rw[<-hb,aeb b hm];rfl
  ·intro b hb
   obtain⟨h1,h2⟩:=Lj b hb
   refine⟨h1,?_⟩
   rcases h2 with h2|h2|h2
   ·exact .inl (by rw[aeb b h2];rfl)
   ·exact .inl (by rw[hlq b (pZ b h2)];rfl)
   ·exact .inr h2
 split at hk;rename_i fl e' ys st2 J3;split at hk;rename_i hee;subst hee;split at hk;rename_i hc;obtain⟨hT,hT',hgv⟩:=hc;unfold room at hk;split at hk;rename_i Iu;rw[J3]at Jf;have X5:dw C g2 st2 a w [(a.eval s,.val false [.sl (.own tag) e' xs]),(a.eval x,.val false [.sl fl e' ys])]:=Jf;obtain⟨fq,Vo,hnq,hlq⟩:=X5.hands 1 _ _ rfl;obtain⟨te',Rm,_⟩:=Hj hE hT';have xQ:st2.ep=st.ep:=by have h1:= @Uf st s;have h2:= @Uf st1 x;rw[Tc]at h1;rw[J3]at h2;exact h2.trans h1
 have hcx:=dQ Vo;cases fl with
 |nest _ _ _ _ _ _=>simp[qI.vt]at hgv
 |part _ _ _ _=>simp[qI.vt]at hgv
 |fe _ _ _=>simp[qI.vt]at hgv
 |own tg=>obtain⟨news,Am,J2,GS,pZ,ES⟩:=agZ (P:=P) hcx.1;exact fin _ st2 J3 X5 ys news Am fq Vo hlq hT _ Rm (by simp) J2 GS pZ (ES hnq) Iu hk
 |arg _=>obtain⟨news,J2,GS⟩:=aaC (P:=P) hcx.2 (by simpa[qI.vt]using hgv) g2.hw;exact fin _ st2 J3 X5 ys news _ fq Vo hlq hT _ Rm (by simp) J2 GS (by simp) (by simp) Iu hk
 |loc ep pv=>
  simp only[qI.vt,ah,bD]at hgv;have ap4:ep=(cy C g2 st2 w).ep:=by show ep=st2.ep;rw[xQ];exact hgv.1
  obtain⟨news,J2,GS⟩:=aaC (P:=P) (hcx.2.2.2.1 ap4) hgv.2 g2.hw;exact fin _ st2 J3 X5 ys news _ fq Vo hlq hT _ Rm (by simp) J2 GS (by simp) (by simp) Iu hk
 cases hk;cases hk;cases hk;rename_i s0 st2 J3;split at hk;rename_i hee;subst hee;split at hk;rename_i hc;obtain⟨hT,hT'⟩:=hc;unfold room at hk;split at hk;rename_i Iu;rw[J3]at Jf;have X5:dw C g2 st2 a w [(a.eval s,.val false [.sl (.own tag) (.int .u8) xs]),(a.eval x,.val false [.str s0])]:=Jf;obtain⟨fq,Vo,hnq,hlq⟩:=X5.hands 1 _ _ rfl;have hcx:=dQ Vo;obtain⟨news,J2,GS⟩:=ag3 (P:=P) (w:=w) s0 g2.hw;rw[<-hcx.1]at J2;have hl:(dm s0).length=s0.length:=by simp[dm]
 exact fin _ st2 J3 X5 (dm s0) news _ fq Vo hlq hT _ (Ua hE hT') (by simp) J2 GS (by simp) (by simp) (by rw[hl];exact Iu) hk;cases hk;cases hk;cases hk;cases hk;cases hk;cases hk
end Go.Dn
