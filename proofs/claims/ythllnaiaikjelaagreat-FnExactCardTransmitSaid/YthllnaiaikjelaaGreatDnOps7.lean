import Derived.Test.YthllnaiaikjelaaGreatDnOps6
/- Part 7: append. -/
namespace Go.Dn
open Go.RowKit
variable {P:Program} {C:Ctx} {st:AS} {a:Act} {w:World} {R:Type} {r:R}
variable {e:CT} {hw:Nat->Nat}
structure Src (P:Program) (w:World) (size:Nat) (u:Value) (m:Nat) (news:List Value):Prop where
 len:∀w1:World,(Builtin.lenOf u).run P w1=.ok m w1
 first:∀w1:World,w1.heap=w.heap->(Builtin.firstCells size m u).run P w1=.ok news.toArray w1
theorem WU {t t' ty te:TypeId}(ht:P.underlying t=some (.slice te))(he:Ni P te e){dt:TypeDesc}(TN:P.underlying t'=some dt)(hdt:∀k,dt≠ .int k){v u:Value}{xs ys:aq e.D}{fp:dy}{news:gO}{zz:aq dy}(eK:dY hw w (.sl e) [v] xs fp)(JO:Src P w e.size u ys.length news)(Gi:ka hw w e news ys zz)(gM:∀b∈fp++zz.flatten,b<w.heap.size)(El:(fp++zz.flatten).Nodup)(H4:xs.length+ys.length<=1073741824): ∃v' w' hw' hZ,(Builtin.append_ #[t,t'] ty #[v,u]).run P w=.ok v' w'/\dY hw' w' (.sl e) [v'] (xs++ys) hZ/\Fr (λb=>b∈fp) w w'/\(∀b,b<w.heap.size->b∉fp->hw' b=hw b)/\ (∀b o x,o<hw b->w.cell? ⟨b,o,none⟩=some x->o<hw' b/\w'.cell? ⟨b,o,none⟩=some x)/\hZ.Nodup/\∀b∈hZ,b<w'.heap.size/\(b∈fp\/b∈zz.flatten\/w.heap.size<=b):=by
 obtain⟨⟨inf,z,Dr,sD,hby,hz,hzc⟩,_⟩:=he;have hzs:z.cells.size=e.size:=by rw[<-oI e,<-hzc];simp
 have aaI:=e.size_pos;have hnz:(match dt with| .int _=>true|_=>false)=false:=by cases dt<;>simp;exact absurd rfl (hdt _)
 have N5:=JO.first w rfl
 have afA:=JO.first w.drew rfl
 have hlen:=JO.len;have Jm:=Gi.1;have h63:¬((xs.length+ys.length:Nat):Int)>IntKind.i64.max:=by
  have:IntKind.i64.max=9223372036854775807:=by decide
  omega
 have grow:∀(S1:gO)(O0:Nat)(fps:aq dy),(∀w1:World,w1.heap=w.heap->(Builtin.firstCells e.size xs.length v).run P w1=.ok S1.toArray w1)->(∃base,v=.slice base xs.length O0)->O0<xs.length+ys.length->
  ka hw w e S1 xs fps->(fps.flatten++zz.flatten).Nodup->(∀b∈fps.flatten,b∈fp)->
  ∃v' w' hw' hZ,(Builtin.append_ #[t,t'] ty #[v,u]).run P w=.ok v' w'/\dY hw' w' (.sl e) [v'] (xs++ys) hZ/\Fr (λb=>b∈fp) w w'/\(∀b,b<w.heap.size->b∉fp->hw' b=hw b)/\
  (∀b o x,o<hw b->w.cell? ⟨b,o,none⟩=some x->o<hw' b/\w'.cell? ⟨b,o,none⟩=some x)/\hZ.Nodup/\∀b∈hZ,b<w'.heap.size/\(b∈fp\/b∈zz.flatten\/w.heap.size<=b):=by
  intro S1 O0 fps hold ah9 HN Sx apJ pa
  obtain⟨base,rfl⟩:=ah9
  have ais:=hold w.drew rfl
  have gv:Builtin.nextslicecap (xs.length+ys.length) O0*inf.bytes<=281474976710656:=by refine growslice_fits HN ?_;have:(xs.length+ys.length)*inf.bytes<=1073741824*65536:=Nat.mul_le_mul H4 hby;omega
  have dD:(Builtin.append_ #[t,t'] ty #[.slice base xs.length O0,u]).run P w=
   .ok (.slice (some ⟨w.heap.size,0,none⟩) (xs.length+ys.length) (grownCap w (xs.length+ys.length) O0 te))
    (w.drew.alloc (.cells (S1.toArray++news.toArray++Builtin.zeroCells z.cells (grownCap w (xs.length+ys.length) O0 te-(xs.length+ys.length))) te)):=by
   have h1:¬(xs.length+ys.length<=O0):=by omega
   have h2:¬(281474976710656<Builtin.nextslicecap (xs.length+ys.length) O0*inf.bytes):=by omega
   simp only[Builtin.append_]
   simp only[underlying,Sem.run_bind,run_program,ht,TN,Result.andThen_ok,Sem.run_pure,sizeOf,typeInfo,Dr,sD,List.getElem?_toArray,cm,eC,hlen,aQ,aW,bV,
    h1,h63,false_and,bF,zeroValue,newRow]
   rw[aG (by simpa using h2)]
   simp only[Sem.run_bind,run_choose,Question.forced,aW,bV,Result.andThen_ok,run_program,Dr,run_askRoom,Sem.run_pure]
   have e1:=ais
   have e2:=afA
   simp only[World.drew]at e1 e2
   simp only[e1,e2,Result.andThen_ok,hz,Sem.run_pure,run_newObj]
   rfl
  have Ad:=grownCap_ge w (xs.length+ys.length) O0 te
  generalize grownCap w (xs.length+ys.length) O0 te=nc at dD Ad
  have apU:(Builtin.zeroCells z.cells (nc-(xs.length+ys.length))).size=(nc-(xs.length+ys.length))*e.size:=by rw[size_zeroCells,hzs]
  let iG:Array Value:=S1.toArray++news.toArray++Builtin.zeroCells z.cells (nc-(xs.length+ys.length))
  have hlo:=Sx.1
  have apn:iG.size=nc*e.size:=by show(S1.toArray++news.toArray++Builtin.zeroCells z.cells (nc-(xs.length+ys.length))).size=_;rw[Array.size_append,Array.size_append,apU];simp only[List.size_toArray,hlo,Jm,<-bZ];congr 1;omega
  let hw':Nat->Nat:=λb=>if b=w.heap.size then(xs++ys).length*e.size else hw b
  have UN:(w.drew.alloc (.cells iG te)).heap[w.heap.size]?=some (.cells iG te (0,0)):=heap_alloc_new w.drew _
  have agG:∀b,b<w.heap.size->(w.drew.alloc (.cells iG te)).heap[b]?=w.heap[b]?:=λb hb=>heap_alloc_old w.drew _ b hb
  have sI:iG.toList.take ((xs++ys).length*e.size)=S1++news:=by
   show(S1.toArray++news.toArray++Builtin.zeroCells z.cells (nc-(xs.length+ys.length))).toList.take _=_;rw[Array.toList_append,Array.toList_append];have:(S1++news).length=(xs++ys).length*e.size:=by simp only[au,hlo,Jm,bZ]
   rw[<-this];exact List.take_left
  have ahj:∀b∈(fps++zz).flatten,b<w.heap.size:=by intro b hb;rw[dI,ay]at hb;exact gM b (by rcases hb with hb|hb;exact bh _ (pa b hb);exact aX _ hb)
  refine⟨_,_,hw',w.heap.size::(fps++zz).flatten,dD,?_,?_,?_,?_,?_,?_⟩
  ·have:=Yk (hw:=hw') (o0:=0) (xs:=xs++ys) (cap:=nc) UN (by intro j _;simp) (by rw[cj];exact apn) (by simp;omega) (by simp[hw']) (fps:=fps++zz) (by rw[fj,sI];refine(Sx.append Gi).mono (λb hb=>?_);have gA:=ahj b hb;exact⟨agG b gA,by simp[hw',gG gA]⟩)
   rw[au]at this
   exact this
  ·exact(Fr.drew _ w).trans (Fr.alloc _ _ _) (λb _ hh=>hh)
  ·intro b hb _;simp[hw',gG hb]
  ·intro b o x ho hx
   have hb:b<w.heap.size:=World.block_lt_of_cell? w _ hx
   exact⟨by simp[hw',gG hb];exact ho,by rw[World.cell?_of_block (a:=⟨b,o,none⟩) (agG b hb)];exact hx⟩
  ·refine cJ.2 ⟨λhm=>mO _ (ahj _ hm),?_⟩
   rw[dI];exact apJ
  ·intro b hb
   rcases bU.1 hb with rfl|hb
   ·exact⟨by simp,.inr (.inr (bc _))⟩
   ·have gA:=ahj b hb
    refine⟨by simp;omega,?_⟩
    rw[dI,ay]at hb
    rcases hb with hb|hb
    ·exact .inl (pa b hb)
    ·exact .inr (.inl hb)
 obtain⟨vv,WI,ho⟩:=id eK;simp at WI;subst WI;rcases ho with⟨⟨ad,rfl⟩,rfl,rfl⟩|⟨b,o0,cap,arr,T,fr,fps,rfl,hb,qf,hs,hc,hh,rfl,hl,ho⟩;have apy:∀w1:World,(Builtin.firstCells e.size ([]:aq e.D).length (.slice ad 0 0)).run P w1=.ok ([]:gO).toArray w1:=by intro w1;cases ad with|none=>simp[Builtin.firstCells]|some ad=>exact run_firstCells_some (P:=P) w1 e.size 0 ad 0 0 [] (by simp) (λj x hj=>by simp at hj)
 by_cases hm:ys.length=0;have hy:ys=[]:=cw hm;subst hy;refine⟨.slice ad 0 0,w,hw,[],?_,⟨_,rfl,.inl ⟨⟨_,rfl⟩,rfl,rfl⟩⟩,Fr.refl _ _,λ_ _ _=>rfl,λ_ _ _ ho hx=>⟨ho,hx⟩,by simp,by simp⟩;simp only[Builtin.append_];simp only[underlying,Sem.run_bind,run_program,ht,TN,Result.andThen_ok,Sem.run_pure,sizeOf,typeInfo,Dr,sD,List.getElem?_toArray,cm,eC,hlen,aW,bV,cL,bF];simp only[List.length_nil]at N5;have aip:news=[]:=cw (by rw[Jm];simp);subst aip;simp[N5];cases ad<;>simp[storeCells];refine grow [] 0 [] (λw1 _=>apy w1) ⟨ad,by simp⟩ (by simp;omega) (ka.nil _ _ _) (by simpa using El) (by simp);have Sx:=Lt hs hc hl ho;have hln:o0+xs.length*e.size<=arr.size:=by rw[hs];exact Nat.add_le_add_left (cq _ hc) _
 have hol:((arr.toList.drop o0).take (xs.length*e.size)).length=xs.length*e.size:=Sx.1;by_cases adw:xs.length+ys.length<=cap;have gv:o0+xs.length*e.size+news.length<=arr.size:=by rw[Jm,hs,fg,<-bZ];exact Nat.add_le_add_left (cq _ adw) _
 have lh:=wX P b (o0+xs.length*e.size) T fr news 0 w arr hb qf (by simpa using gv) Gi.mD;simp only[dF]at lh;have dD:(Builtin.append_ #[t,t'] ty #[.slice (some ⟨b,o0,none⟩) xs.length cap,u]).run P w=.ok (.slice (some ⟨b,o0,none⟩) (xs.length+ys.length) cap) (uw w b (ef arr (o0+xs.length*e.size) news) T fr):=by simp only[Builtin.append_];simp only[underlying,Sem.run_bind,run_program,ht,TN,Result.andThen_ok,Sem.run_pure,sizeOf,typeInfo,Dr,sD,List.getElem?_toArray,cm,eC,hlen,aW,bV,cL,bF,adw,N5,mN,lh]
 have H0:=lE hb;rw[List.cons_append]at El;have sr:b∉fps.flatten++zz.flatten:=(cJ.1 El).1;let hw':Nat->Nat:=λc=>if c=b then o0+(xs++ys).length*e.size else hw c
 refine⟨_,_,hw',b::(fps++zz).flatten,dD,?_,?_,?_,?_,?_,?_⟩;have sI:((ef arr (o0+xs.length*e.size) news).toList.drop o0).take ((xs++ys).length*e.size)=(arr.toList.drop o0).take (xs.length*e.size)++news:=by
  have h2:((arr.toList.drop o0).take (xs.length*e.size)++news).length=(xs++ys).length*e.size:=by simp only[au,hol,Jm,bZ]
  have h3:(xs++ys).length*e.size=xs.length*e.size+news.length:=by rw[au,bZ,Jm]
  apply cA;intro j;rw[iT];by_cases hj:j<(xs++ys).length*e.size;rw[aH hj,yZ gv];by_cases h1:j<xs.length*e.size;rw[mL,bu (by omega),iT,aH h1];rw[zip,bq (by omega),hol];congr 1;omega;rw[aG hj,br (by omega)]
 have:=Yk (hw:=hw') (w:=uw w b (ef arr (o0+xs.length*e.size) news) T fr) (xs:=xs++ys) (cap:=cap) (fps:=fps++zz) (xA H0) (λj hj=>qf j (by rwa[ik]at hj)) (by rw[ik];exact hs) (by simp;omega) (by simp[hw']) (by
  rw[sI];refine(Sx.append Gi).mono (λc C9=>?_);have D2:c≠b:=by rintro rfl;exact sr (by rwa[dI]at C9)
  exact⟨mf D2,by simp[hw',D2]⟩)
 rw[au]at this;exact this;exact⟨rfl,rfl,rfl,by rw[kV];exact bc _,λc _ C9=>mf (λe=>C9 (by simp[e]))⟩;intro c _ C9;have D2:c≠b:=λe=>C9 (by simp[e]);simp[hw',D2];intro c o x MB hx;by_cases hcb:c=b;subst hcb;rw[hh]at MB;refine⟨?_,?_⟩;simp only[hw',bF,au,bZ];omega;rw[mh (xA H0),<-bK,yZ gv,mL,bK,<-mh hb];exact hx;exact⟨by simp[hw',hcb];exact MB,by rw[World.cell?_of_block (a:=⟨c,o,none⟩) (mf hcb)];exact hx⟩;refine cJ.2 ⟨by rw[dI];exact sr,?_⟩;rw[dI];exact(cJ.1 El).2;intro c C9;rw[kV];rcases bU.1 C9 with rfl|C9;exact⟨H0,.inl (by simp)⟩;rw[dI,ay]at C9;rcases C9 with C9|C9;exact⟨gM c (by simp[C9]),.inl (by simp[C9])⟩;exact⟨gM c (by simp[C9]),.inr (.inl C9)⟩;refine grow ((arr.toList.drop o0).take (xs.length*e.size)) cap fps (λw1 hw1=>?_) ⟨_,rfl⟩ (by omega) Sx ?_ (λc C9=>by simp[C9]);refine run_firstCells_some (P:=P) w1 e.size xs.length ⟨b,o0,none⟩ xs.length cap _ hol (λj x hj=>?_);have Zn:w1.heap[b]?=some (.cells arr T fr):=by rw[hw1];exact hb
 rw[mN,mh Zn];rw[iT]at hj;split at hj;simpa using hj;cases hj;rw[List.cons_append]at El;exact(cJ.1 El).2
def uL (w:World)(b o n:Nat):gO:=(List.range n).map λj=>(w.cell? ⟨b,o+j,none⟩).getD undef
theorem Z4 {S:Nat->Nat->Prop}{u:Value}{ys:aq e.D}(h:iQ w S (.sl e) [u] ys)(hf:e.flat=true)(hw:Nat->Nat): ∃news,Src P w e.size u ys.length news/\ka hw w e news ys (List.replicate ys.length []):=by
 obtain⟨v,hv,h⟩:=h;simp at hv;subst hv;rcases h with⟨⟨ad,rfl⟩,rfl⟩|⟨b,o,cap,rfl,hc,h⟩;cases ad with|none=>exact⟨[],⟨λ_=>rfl,λ_ _=>rfl⟩,ka.nil _ _ _⟩|some ad=>exact⟨[],⟨λ_=>rfl,λw1 _=>run_firstCells_some (P:=P) w1 e.size 0 ad 0 0 [] (by simp) (λj x hj=>by simp at hj)⟩,ka.nil _ _ _⟩
 have zS:∀j,j<ys.length*e.size->∃x,w.cell? ⟨b,o+j,none⟩=some x:=by
  intro j hj;have hi:j/e.size<ys.length:=by rw[Nat.div_lt_iff_lt_mul e.size_pos];exact hj
  obtain⟨cs,K7,hr⟩:=h (j/e.size) _ (ax hi);have hm:j%e.size<cs.length:=by rw[iQ.length hr];exact Nat.mod_lt _ e.size_pos
  have:=(K7 (j%e.size) _ (ax hm)).2;rw[fg,Nat.mul_comm,Nat.div_add_mod]at this;exact⟨_,this⟩
 have gI:∀j x,(uL w b o (ys.length*e.size))[j]?=some x->w.cell? ⟨b,o+j,none⟩=some x:=by intro j x hx;simp only[uL,List.getElem?_map]at hx;rcases bH j (ys.length*e.size)with hj|hj;rw[List.getElem?_range hj]at hx;obtain⟨y,hy⟩:=zS j hj;simp[hy]at hx;rw[hy,hx];rw[br (by simpa using hj)]at hx;cases hx
 have hlen:(uL w b o (ys.length*e.size)).length=ys.length*e.size:=by simp[uL]
 refine⟨uL w b o (ys.length*e.size),⟨λ_=>rfl,λw1 hw1=>?_⟩,⟨hlen,by simp,λi y f hy hf'=>?_⟩⟩;refine run_firstCells_some (P:=P) w1 e.size ys.length ⟨b,o,none⟩ ys.length cap _ hlen (λj x hj=>?_);rw[mN];have:=gI j x hj;simpa[World.cell?,hw1]using this;have hi:i<ys.length:=(aD.1 hy).1;have D0:f=[]:=by rw[df,aH hi]at hf';simpa using hf'.symm
 subst D0;obtain⟨cs,K7,hr⟩:=h i y hy;have hm:(i+1)*e.size<=ys.length*e.size:=cq _ hi;rw[bZ,dL]at hm;have e1:((uL w b o (ys.length*e.size)).drop (i*e.size)).take e.size=cs:=by
  apply cA;intro j;rw[iT];have hcl:=iQ.length hr;split;rename_i hj;have hjc:j<cs.length:=by omega
  have hx:=(K7 j _ (ax hjc)).2;have h2:(uL w b o (ys.length*e.size))[i*e.size+j]?=some cs[j]:=by simp only[uL,List.getElem?_map,List.getElem?_range (show i*e.size+j<ys.length*e.size by omega),db];rw[<-fg,hx];rfl
  rw[h2,ax hjc];rw[br (by omega)]
 rw[e1];exact NU hr hf
theorem aga {u:Value}{ys:aq e.D}{fp:dy}(h:dY hw w (.sl e) [u] ys fp): ∃news zz,Src P w e.size u ys.length news/\ka hw w e news ys zz/\(∀b∈zz.flatten,b∈fp)/\(fp.Nodup->zz.flatten.Nodup):=by
 obtain⟨v,hv,h⟩:=h;simp at hv;subst hv;rcases h with⟨⟨ad,rfl⟩,rfl,rfl⟩|⟨b,o0,cap,arr,T,fr,fps,rfl,hb,qf,hs,hc,hh,rfl,hl,ho⟩;refine⟨[],[],⟨λ_=>rfl,λw1 _=>?_⟩,ka.nil _ _ _,by simp,by simp⟩;cases ad with|none=>rfl|some ad=>exact run_firstCells_some (P:=P) w1 e.size 0 ad 0 0 [] (by simp) (λj x hj=>by simp at hj)
 have Sx:=Lt hs hc hl ho;refine⟨_,fps,⟨λ_=>rfl,λw1 hw1=>?_⟩,Sx,λc C9=>by simp[C9],λhn=>(cJ.1 hn).2⟩;refine run_firstCells_some (P:=P) w1 e.size ys.length ⟨b,o0,none⟩ ys.length cap _ Sx.1 (λj x hj=>?_);have Zn:w1.heap[b]?=some (.cells arr T fr):=by rw[hw1];exact hb
 rw[mN,mh Zn];rw[iT]at hj;split at hj;simpa using hj;cases hj
theorem agb (s:aq UInt8)(hw:Nat->Nat):∃news,Src P w (CT.size (.int .u8)) (.string ⟨s.toArray⟩) (dg s).length news/\ka hw w (.int .u8) news (dg s) (List.replicate (dg s).length []):=by
 have hl:(dg s).length=s.length:=by simp[dg]
 refine⟨(dg s).map (Value.int .u8),⟨λw1=>by simp[Builtin.lenOf,yh,hl],λw1 _=>?_⟩,⟨by simp[CT.size],by simp,λi y f hy hf=>?_⟩⟩;have:(ByteArray.mk s.toArray).extract 0 s.length=ByteArray.mk s.toArray:=by rw[extract_mk];simp
 simp[Builtin.firstCells,this,dg];have hi:i<(dg s).length:=(aD.1 hy).1;have hf':f=[]:=by rw[df,aH hi]at hf;simpa using hf.symm
 subst hf';refine⟨?_,rfl⟩;apply cA;intro j;rw[iT];simp only[CT.size,mP];cases j with|zero=>simp[hy]|succ j=>simp
theorem Um {o:Oper}{s x:Operand}{t t':TypeId}(ho:o.op=.call {callee:=.builtin .append,args:=#[s,x],argTypes:=#[t,t']}){v:Value}{w':World}(h:(Builtin.append_ #[t,t'] o.type #[a.eval s,a.eval x]).run P w=.ok v w'):(execOp a.eval o).run P w=.ok (.value v) w':=by
 have e1:(#[s,x]:Array Operand).map a.eval=#[a.eval s,a.eval x]:=by simp
 simp only[execOp,ho,resolve,e1,Sem.run_bind,Sem.run_pure,Result.andThen_ok,invoke,builtin];show((Builtin.append_ #[t,t'] o.type #[a.eval s,a.eval x]).run P w).andThen _=_;rw[h];rfl
theorem TW {E:Env}(hE:iV P E.ty){o:Oper}{args:Array Operand}{ts:Array TypeId}(ho:o.op=.call {callee:=.builtin .append,args,argTypes:=ts})(h:mM C st a w){K:AS->ar R}(hk:xC E o ts.toList args.toList st K=some r):mq P C o a w K r:=by
 obtain⟨g,hg⟩:=h;unfold xC at hk;split at hk;rename_i t t' s x qg eR;have ea:args=#[s,x]:=by apply dV;simpa using eR
 have et:ts=#[t,t']:=by apply dV;simpa using qg
 subst ea;subst et;split at hk;rename_i tag e xs st1 SI;obtain⟨g1,hg1⟩:=hg.take s;rw[SI]at hg1;simp only[cp]at hg1;obtain⟨g2,IP⟩:=hg1.take x
 have fin:∀(u:AV)(st2:AS),st1.take x=(u,st2)->dr C g2 st2 a w [(a.eval s,.val false [.sl (.own tag) e xs]),(a.eval x,u)]->∀(ys:aq e.D)(news:gO)(zz:aq dy)(fq:dy),
  fA (cv C g2 st2 w) (a.eval x) u fq->(∀b∈fq,g2.dE b=some (.hand 1))->E.sl t=some e->∀dt,P.underlying t'=some dt->(∀k,dt≠ .int k)->
  Src P w e.size (a.eval x) ys.length news->ka g2.hw w e news ys zz->(∀b∈zz.flatten,b∈fq)->zz.flatten.Nodup->xs.length+ys.length<=1073741824->
  K (st2.pb o.dst e (xs++ys))=some r->mq P C o a w K r:=by
  intro u st2 _ IP ys news zz fq _ hlq hT dt hdt apt JO Gi pa El H4 Sz
  obtain⟨fp,hrs,apL,adm⟩:=IP.hands 0 _ _ rfl
  have eK:=(dM hrs).1
  obtain⟨te,hu,he⟩:=GJ hE hT
  have gM:∀b∈fp++zz.flatten,b<w.heap.size:=by intro b hb;rcases ay.1 hb with hb|hb;exact(IP.ff b _ (adm b hb)).1;exact(IP.ff b _ (hlq b (pa b hb))).1
  have apH:(fp++zz.flatten).Nodup:=by refine aB.2 ⟨apL,El,?_⟩;rintro b hb c hc rfl;have h1:=adm b hb;rw[hlq b (pa b hc)]at h1;cases h1
  obtain⟨v',w',hw',hZ,dD,Ds,gu,Br,JK,SB,K8⟩:=WU (ty:=o.type) hu he hdt apt eK JO Gi gM apH H4
  refine⟨v',w',_,.inl (Um ho dD),?_,Sz⟩
  refine IP.OU o.dst (hw':=hw') (fp:=hZ) ⟨gu.os,gu.tape,gu.output,gu.size,λb hb hh=>gu.block b hb (λhm=>hh (by rw[adm b hm];rfl))⟩ ?_ JK Ds SB ?_
  ·intro b y hb hh
   refine Br b (IP.ff b y hb).1 (λhm=>hh ?_)
   rw[<-hb,adm b hm];rfl
  ·intro b hb
   obtain⟨h1,h2⟩:=K8 b hb
   refine⟨h1,?_⟩
   rcases h2 with h2|h2|h2
   ·exact .inl (by rw[adm b h2];rfl)
   ·exact .inl (by rw[hlq b (pa b h2)];rfl)
   ·exact .inr h2
 split at hk;rename_i fl e' ys st2 JP;split at hk;rename_i hee;subst hee;split at hk;rename_i hc;obtain⟨hT,hT',hgv⟩:=hc;unfold room at hk;split at hk;rename_i H4;rw[JP]at IP;have Xz:dr C g2 st2 a w [(a.eval s,.val false [.sl (.own tag) e' xs]),(a.eval x,.val false [.sl fl e' ys])]:=IP;obtain⟨fq,hrx,hnq,hlq⟩:=Xz.hands 1 _ _ rfl;obtain⟨te',QX,_⟩:=GJ hE hT';have xg:st2.ep=st.ep:=by have h1:= @TD st s;have h2:= @TD st1 x;rw[SI]at h1;rw[JP]at h2;exact h2.trans h1
 have hcx:=dM hrx;cases fl with
 |nest _ _ _ _ _ _=>simp[pW.uB]at hgv
 |part _ _ _ _=>simp[pW.uB]at hgv
 |eS _ _ _=>simp[pW.uB]at hgv
 |own tg=>obtain⟨news,zz,JO,Gi,pa,El⟩:=aga (P:=P) hcx.1;exact fin _ st2 JP Xz ys news zz fq hrx hlq hT _ QX (by simp) JO Gi pa (El hnq) H4 hk
 |arg _=>obtain⟨news,JO,Gi⟩:=Z4 (P:=P) hcx.2 (by simpa[pW.uB]using hgv) g2.hw;exact fin _ st2 JP Xz ys news _ fq hrx hlq hT _ QX (by simp) JO Gi (by simp) (by simp) H4 hk
 |loc ep pv=>
  simp only[pW.uB,ah,bk]at hgv;have apw:ep=(cv C g2 st2 w).ep:=by show ep=st2.ep;rw[xg];exact hgv.1
  obtain⟨news,JO,Gi⟩:=Z4 (P:=P) (hcx.2.2.2.1 apw) hgv.2 g2.hw;exact fin _ st2 JP Xz ys news _ fq hrx hlq hT _ QX (by simp) JO Gi (by simp) (by simp) H4 hk
 cases hk;cases hk;cases hk;rename_i s0 st2 JP;split at hk;rename_i hee;subst hee;split at hk;rename_i hc;obtain⟨hT,hT'⟩:=hc;unfold room at hk;split at hk;rename_i H4;rw[JP]at IP;have Xz:dr C g2 st2 a w [(a.eval s,.val false [.sl (.own tag) (.int .u8) xs]),(a.eval x,.val false [.str s0])]:=IP;obtain⟨fq,hrx,hnq,hlq⟩:=Xz.hands 1 _ _ rfl;have hcx:=dM hrx;obtain⟨news,JO,Gi⟩:=agb (P:=P) (w:=w) s0 g2.hw;rw[<-hcx.1]at JO;have hl:(dg s0).length=s0.length:=by simp[dg]
 exact fin _ st2 JP Xz (dg s0) news _ fq hrx hlq hT _ (Tv hE hT') (by simp) JO Gi (by simp) (by simp) (by rw[hl];exact H4) hk;cases hk;cases hk;cases hk;cases hk;cases hk;cases hk
end Go.Dn
