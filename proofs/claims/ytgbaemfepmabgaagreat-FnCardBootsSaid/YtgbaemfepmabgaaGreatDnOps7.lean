import Derived.Test.YtgbaemfepmabgaaGreatDnOps6
/- Part 7: append. -/
namespace Go.Dn
open Go.RowKit
variable {P:Program} {C:Ctx} {st:AS} {a:Act} {w:World} {R:Type} {r:R}
variable {e:CT} {hw:Nat->Nat}
structure Src (P:Program) (w:World) (size:Nat) (u:Value) (m:Nat) (news:List Value):Prop where
 len:∀w1:World,(Builtin.lenOf u).run P w1=.ok m w1
 first:∀w1:World,w1.heap=w.heap->(Builtin.firstCells size m u).run P w1=.ok news.toArray w1
theorem V9 {t t' ty te:TypeId}(ht:P.underlying t=some (.slice te))(he:Kz P te e){dt:TypeDesc}(ht':P.underlying t'=some dt)(hdt:∀k,dt≠ .int k){v u:Value}{xs ys:aw e.D}{fp:fu}{news:iS}{fpsy:aw fu}(hown:fM hw w (.sl e) [v] xs fp)(hsrc:Src P w e.size u ys.length news)(hel:ky hw w e news ys fpsy)(hlt:∀b∈fp++fpsy.flatten,b<w.heap.size)(hnd:(fp++fpsy.flatten).Nodup)(hroom:xs.length+ys.length<=1073741824): ∃v' w' hw' fp',(Builtin.append_ #[t,t'] ty #[v,u]).run P w=.ok v' w'/\fM hw' w' (.sl e) [v'] (xs++ys) fp'/\Fr (λb=>b∈fp) w w'/\(∀b,b<w.heap.size->b∉fp->hw' b=hw b)/\ (∀b o x,o<hw b->w.cell? ⟨b,o,none⟩=some x->o<hw' b/\w'.cell? ⟨b,o,none⟩=some x)/\fp'.Nodup/\∀b∈fp',b<w'.heap.size/\(b∈fp\/b∈fpsy.flatten\/w.heap.size<=b):=by
 obtain⟨⟨inf,z,hinf,hsz,hby,hz,hzc⟩,_⟩:=he;have hzs:z.cells.size=e.size:=by rw[<-pC e,<-hzc];simp
 have hpos:=e.size_pos;have hnz:(match dt with| .int _=>true|_=>false)=false:=by cases dt<;>simp;exact absurd rfl (hdt _)
 have hfirst:=hsrc.first w rfl
 have hfirstD:=hsrc.first w.drew rfl
 have hlen:=hsrc.len;have hnl:=hel.1;have h63:¬((xs.length+ys.length:Nat):Int)>IntKind.i64.max:=by
  have:IntKind.i64.max=9223372036854775807:=by decide
  omega
 have grow:∀(olds:iS)(sCap:Nat)(fps:aw fu),(∀w1:World,w1.heap=w.heap->(Builtin.firstCells e.size xs.length v).run P w1=.ok olds.toArray w1)->(∃base,v=.slice base xs.length sCap)->sCap<xs.length+ys.length->
  ky hw w e olds xs fps->(fps.flatten++fpsy.flatten).Nodup->(∀b∈fps.flatten,b∈fp)->
  ∃v' w' hw' fp',(Builtin.append_ #[t,t'] ty #[v,u]).run P w=.ok v' w'/\fM hw' w' (.sl e) [v'] (xs++ys) fp'/\Fr (λb=>b∈fp) w w'/\(∀b,b<w.heap.size->b∉fp->hw' b=hw b)/\
  (∀b o x,o<hw b->w.cell? ⟨b,o,none⟩=some x->o<hw' b/\w'.cell? ⟨b,o,none⟩=some x)/\fp'.Nodup/\∀b∈fp',b<w'.heap.size/\(b∈fp\/b∈fpsy.flatten\/w.heap.size<=b):=by
  intro olds sCap fps hold hbase hcap helo hndo hsub
  obtain⟨base,rfl⟩:=hbase
  have holdD:=hold w.drew rfl
  have hfit:Builtin.nextslicecap (xs.length+ys.length) sCap*inf.bytes<=281474976710656:=by refine growslice_fits hcap ?_;have:(xs.length+ys.length)*inf.bytes<=1073741824*65536:=Nat.mul_le_mul hroom hby;omega
  have hrun:(Builtin.append_ #[t,t'] ty #[.slice base xs.length sCap,u]).run P w=
   .ok (.slice (some ⟨w.heap.size,0,none⟩) (xs.length+ys.length) (grownCap w (xs.length+ys.length) sCap te))
    (w.drew.alloc (.cells (olds.toArray++news.toArray++Builtin.zeroCells z.cells (grownCap w (xs.length+ys.length) sCap te-(xs.length+ys.length))) te)):=by
   have h1:¬(xs.length+ys.length<=sCap):=by omega
   have h2:¬(281474976710656<Builtin.nextslicecap (xs.length+ys.length) sCap*inf.bytes):=by omega
   simp only[Builtin.append_]
   simp only[underlying,Sem.run_bind,run_program,ht,ht',Result.andThen_ok,Sem.run_pure,sizeOf,typeInfo,hinf,hsz,List.getElem?_toArray,cA,fA,hlen,aJ,bj,cu,
    h1,h63,false_and,cg,zeroValue,newRow]
   rw[aD (by simpa using h2)]
   simp only[Sem.run_bind,run_choose,Question.forced,bj,cu,Result.andThen_ok,run_program,hinf,run_askRoom,Sem.run_pure]
   have e1:=holdD
   have e2:=hfirstD
   simp only[World.drew]at e1 e2
   simp only[e1,e2,Result.andThen_ok,hz,Sem.run_pure,run_newObj]
   rfl
  have hge:=grownCap_ge w (xs.length+ys.length) sCap te
  generalize grownCap w (xs.length+ys.length) sCap te=nc at hrun hge
  have hzc2:(Builtin.zeroCells z.cells (nc-(xs.length+ys.length))).size=(nc-(xs.length+ys.length))*e.size:=by rw[size_zeroCells,hzs]
  let arr':Array Value:=olds.toArray++news.toArray++Builtin.zeroCells z.cells (nc-(xs.length+ys.length))
  have hlo:=helo.1
  have hasz:arr'.size=nc*e.size:=by show(olds.toArray++news.toArray++Builtin.zeroCells z.cells (nc-(xs.length+ys.length))).size=_;rw[Array.size_append,Array.size_append,hzc2];simp only[List.size_toArray,hlo,hnl,<-cM];congr 1;omega
  let hw':Nat->Nat:=λb=>if b=w.heap.size then(xs++ys).length*e.size else hw b
  have hnew:(w.drew.alloc (.cells arr' te)).heap[w.heap.size]?=some (.cells arr' te (0,0)):=heap_alloc_new w.drew _
  have holdb:∀b,b<w.heap.size->(w.drew.alloc (.cells arr' te)).heap[b]?=w.heap[b]?:=λb hb=>heap_alloc_old w.drew _ b hb
  have htk:arr'.toList.take ((xs++ys).length*e.size)=olds++news:=by
   show(olds.toArray++news.toArray++Builtin.zeroCells z.cells (nc-(xs.length+ys.length))).toList.take _=_;rw[Array.toList_append,Array.toList_append];have:(olds++news).length=(xs++ys).length*e.size:=by simp only[ai,hlo,hnl,cM]
   rw[<-this];exact List.take_left
  have hltf:∀b∈(fps++fpsy).flatten,b<w.heap.size:=by intro b hb;rw[eI,ay]at hb;exact hlt b (by rcases hb with hb|hb;exact bI _ (hsub b hb);exact bw _ hb)
  refine⟨_,_,hw',w.heap.size::(fps++fpsy).flatten,hrun,?_,?_,?_,?_,?_,?_⟩
  ·have:=XM (hw:=hw') (o0:=0) (xs:=xs++ys) (cap:=nc) hnew (by intro j _;simp) (by rw[cw];exact hasz) (by simp;omega) (by simp[hw']) (fps:=fps++fpsy) (by rw[fi,htk];refine(helo.append hel).mono (λb hb=>?_);have hb':=hltf b hb;exact⟨holdb b hb',by simp[hw',im hb']⟩)
   rw[ai]at this
   exact this
  ·exact(Fr.drew _ w).trans (Fr.alloc _ _ _) (λb _ hh=>hh)
  ·intro b hb _;simp[hw',im hb]
  ·intro b o x ho hx
   have hb:b<w.heap.size:=World.block_lt_of_cell? w _ hx
   exact⟨by simp[hw',im hb];exact ho,by rw[World.cell?_of_block (a:=⟨b,o,none⟩) (holdb b hb)];exact hx⟩
  ·refine dA.2 ⟨λhm=>Nat.lt_irrefl _ (hltf _ hm),?_⟩
   rw[eI];exact hndo
  ·intro b hb
   rcases bQ.1 hb with rfl|hb
   ·exact⟨by simp,.inr (.inr (bh _))⟩
   ·have hb':=hltf b hb
    refine⟨by simp;omega,?_⟩
    rw[eI,ay]at hb
    rcases hb with hb|hb
    ·exact .inl (hsub b hb)
    ·exact .inr (.inl hb)
 obtain⟨vv,hvv,ho⟩:=id hown;simp at hvv;subst hvv;rcases ho with⟨⟨ad,rfl⟩,rfl,rfl⟩|⟨b,o0,cap,arr,T,fr,fps,rfl,hb,hth,hs,hc,hh,rfl,hl,ho⟩;have hfc0:∀w1:World,(Builtin.firstCells e.size ([]:aw e.D).length (.slice ad 0 0)).run P w1=.ok ([]:iS).toArray w1:=by intro w1;cases ad with|none=>simp[Builtin.firstCells]|some ad=>exact run_firstCells_some (P:=P) w1 e.size 0 ad 0 0 [] (by simp) (λj x hj=>by simp at hj)
 by_cases hm:ys.length=0;have hy:ys=[]:=cp hm;subst hy;refine⟨.slice ad 0 0,w,hw,[],?_,⟨_,rfl,.inl ⟨⟨_,rfl⟩,rfl,rfl⟩⟩,Fr.refl _ _,λ_ _ _=>rfl,λ_ _ _ ho hx=>⟨ho,hx⟩,by simp,by simp⟩;simp only[Builtin.append_];simp only[underlying,Sem.run_bind,run_program,ht,ht',Result.andThen_ok,Sem.run_pure,sizeOf,typeInfo,hinf,hsz,List.getElem?_toArray,cA,fA,hlen,bj,cu,bz,cg];simp only[dZ]at hfirst;have hnews:news=[]:=cp (by rw[hnl];simp);subst hnews;simp[hfirst];cases ad<;>simp[storeCells];refine grow [] 0 [] (λw1 _=>hfc0 w1) ⟨ad,by simp⟩ (by simp;omega) (ky.nil _ _ _) (by simpa using hnd) (by simp);have helo:=Iu hs hc hl ho;have hln:o0+xs.length*e.size<=arr.size:=by rw[hs];exact Nat.add_le_add_left (cH _ hc) _
 have hol:((arr.toList.drop o0).take (xs.length*e.size)).length=xs.length*e.size:=helo.1;by_cases hroom2:xs.length+ys.length<=cap;have hfit:o0+xs.length*e.size+news.length<=arr.size:=by rw[hnl,hs,fW,<-cM];exact Nat.add_le_add_left (cH _ hroom2) _
 have hst:=vX P b (o0+xs.length*e.size) T fr news 0 w arr hb hth (by simpa using hfit) hel.mZ;simp only[eG]at hst;have hrun:(Builtin.append_ #[t,t'] ty #[.slice (some ⟨b,o0,none⟩) xs.length cap,u]).run P w=.ok (.slice (some ⟨b,o0,none⟩) (xs.length+ys.length) cap) (uj w b (eX arr (o0+xs.length*e.size) news) T fr):=by simp only[Builtin.append_];simp only[underlying,Sem.run_bind,run_program,ht,ht',Result.andThen_ok,Sem.run_pure,sizeOf,typeInfo,hinf,hsz,List.getElem?_toArray,cA,fA,hlen,bj,cu,bz,cg,hroom2,hfirst,nh,hst]
 have hbs:=mq hb;rw[List.cons_append]at hnd;have hnb:b∉fps.flatten++fpsy.flatten:=(dA.1 hnd).1;let hw':Nat->Nat:=λc=>if c=b then o0+(xs++ys).length*e.size else hw c
 refine⟨_,_,hw',b::(fps++fpsy).flatten,hrun,?_,?_,?_,?_,?_,?_⟩;have htk:((eX arr (o0+xs.length*e.size) news).toList.drop o0).take ((xs++ys).length*e.size)=(arr.toList.drop o0).take (xs.length*e.size)++news:=by
  have h2:((arr.toList.drop o0).take (xs.length*e.size)++news).length=(xs++ys).length*e.size:=by simp only[ai,hol,hnl,cM]
  have h3:(xs++ys).length*e.size=xs.length*e.size+news.length:=by rw[ai,cM,hnl]
  apply cL;intro j;rw[jx];by_cases hj:j<(xs++ys).length*e.size;rw[aE hj,xR hfit];by_cases h1:j<xs.length*e.size;rw[nf,bD (by omega),jx,aE h1];rw[zip,bA (by omega),hol];congr 1;omega;rw[aD hj,bG (by omega)]
 have:=XM (hw:=hw') (w:=uj w b (eX arr (o0+xs.length*e.size) news) T fr) (xs:=xs++ys) (cap:=cap) (fps:=fps++fpsy) (wM hbs) (λj hj=>hth j (by rwa[iP]at hj)) (by rw[iP];exact hs) (by simp;omega) (by simp[hw']) (by
  rw[htk];refine(helo.append hel).mono (λc hc'=>?_);have hne:c≠b:=by rintro rfl;exact hnb (by rwa[eI]at hc')
  exact⟨mI hne,by simp[hw',hne]⟩)
 rw[ai]at this;exact this;exact⟨rfl,rfl,rfl,by rw[lM];exact bh _,λc _ hc'=>mI (λe=>hc' (by simp[e]))⟩;intro c _ hc';have hne:c≠b:=λe=>hc' (by simp[e]);simp[hw',hne];intro c o x ho' hx;by_cases hcb:c=b;subst hcb;rw[hh]at ho';refine⟨?_,?_⟩;simp only[hw',cg,ai,cM];omega;rw[oS (wM hbs),<-cB,xR hfit,nf,cB,<-oS hb];exact hx;exact⟨by simp[hw',hcb];exact ho',by rw[World.cell?_of_block (a:=⟨c,o,none⟩) (mI hcb)];exact hx⟩;refine dA.2 ⟨by rw[eI];exact hnb,?_⟩;rw[eI];exact(dA.1 hnd).2;intro c hc';rw[lM];rcases bQ.1 hc' with rfl|hc';exact⟨hbs,.inl (by simp)⟩;rw[eI,ay]at hc';rcases hc' with hc'|hc';exact⟨hlt c (by simp[hc']),.inl (by simp[hc'])⟩;exact⟨hlt c (by simp[hc']),.inr (.inl hc')⟩;refine grow ((arr.toList.drop o0).take (xs.length*e.size)) cap fps (λw1 hw1=>?_) ⟨_,rfl⟩ (by omega) helo ?_ (λc hc'=>by simp[hc']);refine run_firstCells_some (P:=P) w1 e.size xs.length ⟨b,o0,none⟩ xs.length cap _ hol (λj x hj=>?_);have hb1:w1.heap[b]?=some (.cells arr T fr):=by rw[hw1];exact hb
 rw[nh,oS hb1];rw[jx]at hj;split at hj;simpa using hj;cases hj;rw[List.cons_append]at hnd;exact(dA.1 hnd).2
def uA (w:World)(b o n:Nat):iS:=(List.range n).map λj=>(w.cell? ⟨b,o+j,none⟩).getD undef
theorem ZU {S:Nat->Nat->Prop}{u:Value}{ys:aw e.D}(h:jr w S (.sl e) [u] ys)(hf:e.flat=true)(hw:Nat->Nat): ∃news,Src P w e.size u ys.length news/\ky hw w e news ys (List.replicate ys.length []):=by
 obtain⟨v,hv,h⟩:=h;simp at hv;subst hv;rcases h with⟨⟨ad,rfl⟩,rfl⟩|⟨b,o,cap,rfl,hc,h⟩;cases ad with|none=>exact⟨[],⟨λ_=>rfl,λ_ _=>rfl⟩,ky.nil _ _ _⟩|some ad=>exact⟨[],⟨λ_=>rfl,λw1 _=>run_firstCells_some (P:=P) w1 e.size 0 ad 0 0 [] (by simp) (λj x hj=>by simp at hj)⟩,ky.nil _ _ _⟩
 have hcell:∀j,j<ys.length*e.size->∃x,w.cell? ⟨b,o+j,none⟩=some x:=by
  intro j hj;have hi:j/e.size<ys.length:=by rw[Nat.div_lt_iff_lt_mul e.size_pos];exact hj
  obtain⟨cs,hcs,hr⟩:=h (j/e.size) _ (al hi);have hm:j%e.size<cs.length:=by rw[jr.length hr];exact Nat.mod_lt _ e.size_pos
  have:=(hcs (j%e.size) _ (al hm)).2;rw[fW,Nat.mul_comm,Nat.div_add_mod]at this;exact⟨_,this⟩
 have hget:∀j x,(uA w b o (ys.length*e.size))[j]?=some x->w.cell? ⟨b,o+j,none⟩=some x:=by intro j x hx;simp only[uA,List.getElem?_map]at hx;rcases cq j (ys.length*e.size)with hj|hj;rw[List.getElem?_range hj]at hx;obtain⟨y,hy⟩:=hcell j hj;simp[hy]at hx;rw[hy,hx];rw[bG (by simpa using hj)]at hx;cases hx
 have hlen:(uA w b o (ys.length*e.size)).length=ys.length*e.size:=by simp[uA]
 refine⟨uA w b o (ys.length*e.size),⟨λ_=>rfl,λw1 hw1=>?_⟩,⟨hlen,by simp,λi y f hy hf'=>?_⟩⟩;refine run_firstCells_some (P:=P) w1 e.size ys.length ⟨b,o,none⟩ ys.length cap _ hlen (λj x hj=>?_);rw[nh];have:=hget j x hj;simpa[World.cell?,hw1]using this;have hi:i<ys.length:=(aC.1 hy).1;have hf2:f=[]:=by rw[eM,aE hi]at hf';simpa using hf'.symm
 subst hf2;obtain⟨cs,hcs,hr⟩:=h i y hy;have hm:(i+1)*e.size<=ys.length*e.size:=cH _ hi;rw[cM,fK]at hm;have e1:((uA w b o (ys.length*e.size)).drop (i*e.size)).take e.size=cs:=by
  apply cL;intro j;rw[jx];have hcl:=jr.length hr;split;rename_i hj;have hjc:j<cs.length:=by omega
  have hx:=(hcs j _ (al hjc)).2;have h2:(uA w b o (ys.length*e.size))[i*e.size+j]?=some cs[j]:=by simp only[uA,List.getElem?_map,List.getElem?_range (show i*e.size+j<ys.length*e.size by omega),dB];rw[<-fW,hx];rfl
  rw[h2,al hjc];rw[bG (by omega)]
 rw[e1];exact LD hr hf
theorem ah0 {u:Value}{ys:aw e.D}{fp:fu}(h:fM hw w (.sl e) [u] ys fp): ∃news fpsy,Src P w e.size u ys.length news/\ky hw w e news ys fpsy/\(∀b∈fpsy.flatten,b∈fp)/\(fp.Nodup->fpsy.flatten.Nodup):=by
 obtain⟨v,hv,h⟩:=h;simp at hv;subst hv;rcases h with⟨⟨ad,rfl⟩,rfl,rfl⟩|⟨b,o0,cap,arr,T,fr,fps,rfl,hb,hth,hs,hc,hh,rfl,hl,ho⟩;refine⟨[],[],⟨λ_=>rfl,λw1 _=>?_⟩,ky.nil _ _ _,by simp,by simp⟩;cases ad with|none=>rfl|some ad=>exact run_firstCells_some (P:=P) w1 e.size 0 ad 0 0 [] (by simp) (λj x hj=>by simp at hj)
 have helo:=Iu hs hc hl ho;refine⟨_,fps,⟨λ_=>rfl,λw1 hw1=>?_⟩,helo,λc hc'=>by simp[hc'],λhn=>(dA.1 hn).2⟩;refine run_firstCells_some (P:=P) w1 e.size ys.length ⟨b,o0,none⟩ ys.length cap _ helo.1 (λj x hj=>?_);have hb1:w1.heap[b]?=some (.cells arr T fr):=by rw[hw1];exact hb
 rw[nh,oS hb1];rw[jx]at hj;split at hj;simpa using hj;cases hj
theorem ah1 (s:aw UInt8)(hw:Nat->Nat):∃news,Src P w (CT.size (.int .u8)) (.string ⟨s.toArray⟩) (du s).length news/\ky hw w (.int .u8) news (du s) (List.replicate (du s).length []):=by
 have hl:(du s).length=s.length:=by simp[du]
 refine⟨(du s).map (Value.int .u8),⟨λw1=>by simp[Builtin.lenOf,xi,hl],λw1 _=>?_⟩,⟨by simp[CT.size],by simp,λi y f hy hf=>?_⟩⟩;have:(ByteArray.mk s.toArray).extract 0 s.length=ByteArray.mk s.toArray:=by rw[extract_mk];simp
 simp[Builtin.firstCells,this,du];have hi:i<(du s).length:=(aC.1 hy).1;have hf':f=[]:=by rw[eM,aE hi]at hf;simpa using hf.symm
 subst hf';refine⟨?_,rfl⟩;apply cL;intro j;rw[jx];simp only[CT.size,ni];cases j with|zero=>simp[hy]|succ j=>simp
theorem S4 {o:Oper}{s x:Operand}{t t':TypeId}(ho:o.op=.call {callee:=.builtin .append,args:=#[s,x],argTypes:=#[t,t']}){v:Value}{w':World}(h:(Builtin.append_ #[t,t'] o.type #[a.eval s,a.eval x]).run P w=.ok v w'):(execOp a.eval o).run P w=.ok (.value v) w':=by
 have e1:(#[s,x]:Array Operand).map a.eval=#[a.eval s,a.eval x]:=by simp
 simp only[execOp,ho,resolve,e1,Sem.run_bind,Sem.run_pure,Result.andThen_ok,invoke,builtin];show((Builtin.append_ #[t,t'] o.type #[a.eval s,a.eval x]).run P w).andThen _=_;rw[h];rfl
theorem Sm {E:Env}(hE:jA P E.ty){o:Oper}{args:Array Operand}{ts:Array TypeId}(ho:o.op=.call {callee:=.builtin .append,args,argTypes:=ts})(h:oa C st a w){K:AS->az R}(hk:wO E o ts.toList args.toList st K=some r):mL P C o a w K r:=by
 obtain⟨g,hg⟩:=h;unfold wO at hk;split at hk;rename_i t t' s x hts hargs;have ea:args=#[s,x]:=by apply fG;simpa using hargs
 have et:ts=#[t,t']:=by apply fG;simpa using hts
 subst ea;subst et;split at hk;rename_i tag e xs st1 htk1;obtain⟨g1,hg1⟩:=hg.take s;rw[htk1]at hg1;simp only[cj]at hg1;obtain⟨g2,hg2⟩:=hg1.take x
 have fin:∀(u:AV)(st2:AS),st1.take x=(u,st2)->ez C g2 st2 a w [(a.eval s,.val false [.sl (.own tag) e xs]),(a.eval x,u)]->∀(ys:aw e.D)(news:iS)(fpsy:aw fu)(fq:fu),
  gE (dc C g2 st2 w) (a.eval x) u fq->(∀b∈fq,g2.lab b=some (.hand 1))->E.sl t=some e->∀dt,P.underlying t'=some dt->(∀k,dt≠ .int k)->
  Src P w e.size (a.eval x) ys.length news->ky g2.hw w e news ys fpsy->(∀b∈fpsy.flatten,b∈fq)->fpsy.flatten.Nodup->xs.length+ys.length<=1073741824->
  K (st2.pR o.dst e (xs++ys))=some r->mL P C o a w K r:=by
  intro u st2 _ hg2 ys news fpsy fq _ hlq hT dt hdt hdti hsrc hel hsub hnd hroom hkk
  obtain⟨fp,hrs,hnfp,hlfp⟩:=hg2.hands 0 _ _ rfl
  have hown:=(eU hrs).1
  obtain⟨te,hu,he⟩:=DW hE hT
  have hlt:∀b∈fp++fpsy.flatten,b<w.heap.size:=by intro b hb;rcases ay.1 hb with hb|hb;exact(hg2.labs b _ (hlfp b hb)).1;exact(hg2.labs b _ (hlq b (hsub b hb))).1
  have hnd2:(fp++fpsy.flatten).Nodup:=by refine aO.2 ⟨hnfp,hnd,?_⟩;rintro b hb c hc rfl;have h1:=hlfp b hb;rw[hlq b (hsub b hc)]at h1;cases h1
  obtain⟨v',w',hw',fp',hrun,hown',hfr,hhw,hprot,hnd',hfp'⟩:=V9 (ty:=o.type) hu he hdt hdti hown hsrc hel hlt hnd2 hroom
  refine⟨v',w',_,.inl (S4 ho hrun),?_,hkk⟩
  refine hg2.ME o.dst (hw':=hw') (fp:=fp') ⟨hfr.os,hfr.tape,hfr.output,hfr.size,λb hb hh=>hfr.block b hb (λhm=>hh (by rw[hlfp b hm];rfl))⟩ ?_ hprot hown' hnd' ?_
  ·intro b y hb hh
   refine hhw b (hg2.labs b y hb).1 (λhm=>hh ?_)
   rw[<-hb,hlfp b hm];rfl
  ·intro b hb
   obtain⟨h1,h2⟩:=hfp' b hb
   refine⟨h1,?_⟩
   rcases h2 with h2|h2|h2
   ·exact .inl (by rw[hlfp b h2];rfl)
   ·exact .inl (by rw[hlq b (hsub b h2)];rfl)
   ·exact .inr h2
 split at hk;rename_i fl e' ys st2 htk2;split at hk;rename_i hee;subst hee;split at hk;rename_i hc;obtain⟨hT,hT',hgv⟩:=hc;unfold room at hk;split at hk;rename_i hroom;rw[htk2]at hg2;have hg2':ez C g2 st2 a w [(a.eval s,.val false [.sl (.own tag) e' xs]),(a.eval x,.val false [.sl fl e' ys])]:=hg2;obtain⟨fq,hrx,hnq,hlq⟩:=hg2'.hands 1 _ _ rfl;obtain⟨te',hu',_⟩:=DW hE hT';have hep:st2.ep=st.ep:=by have h1:= @Sa st s;have h2:= @Sa st1 x;rw[htk1]at h1;rw[htk2]at h2;exact h2.trans h1
 have hcx:=eU hrx;cases fl with
 |nest _ _ _ _ _ _=>simp[qv.qB]at hgv
 |part _ _ _ _=>simp[qv.qB]at hgv
 |holed _ _ _=>simp[qv.qB]at hgv
 |own tg=>obtain⟨news,fpsy,hsrc,hel,hsub,hnd⟩:=ah0 (P:=P) hcx.1;exact fin _ st2 htk2 hg2' ys news fpsy fq hrx hlq hT _ hu' (by simp) hsrc hel hsub (hnd hnq) hroom hk
 |arg _=>obtain⟨news,hsrc,hel⟩:=ZU (P:=P) hcx.2 (by simpa[qv.qB]using hgv) g2.hw;exact fin _ st2 htk2 hg2' ys news _ fq hrx hlq hT _ hu' (by simp) hsrc hel (by simp) (by simp) hroom hk
 |loc ep pv=>
  simp only[qv.qB,ae,bm]at hgv;have hepp:ep=(dc C g2 st2 w).ep:=by show ep=st2.ep;rw[hep];exact hgv.1
  obtain⟨news,hsrc,hel⟩:=ZU (P:=P) (hcx.2.2.2.1 hepp) hgv.2 g2.hw;exact fin _ st2 htk2 hg2' ys news _ fq hrx hlq hT _ hu' (by simp) hsrc hel (by simp) (by simp) hroom hk
 cases hk;cases hk;cases hk;rename_i s0 st2 htk2;split at hk;rename_i hee;subst hee;split at hk;rename_i hc;obtain⟨hT,hT'⟩:=hc;unfold room at hk;split at hk;rename_i hroom;rw[htk2]at hg2;have hg2':ez C g2 st2 a w [(a.eval s,.val false [.sl (.own tag) (.int .u8) xs]),(a.eval x,.val false [.str s0])]:=hg2;obtain⟨fq,hrx,hnq,hlq⟩:=hg2'.hands 1 _ _ rfl;have hcx:=eU hrx;obtain⟨news,hsrc,hel⟩:=ah1 (P:=P) (w:=w) s0 g2.hw;rw[<-hcx.1]at hsrc;have hl:(du s0).length=s0.length:=by simp[du]
 exact fin _ st2 htk2 hg2' (du s0) news _ fq hrx hlq hT _ (R5 hE hT') (by simp) hsrc hel (by simp) (by simp) (by rw[hl];exact hroom) hk;cases hk;cases hk;cases hk;cases hk;cases hk;cases hk
end Go.Dn
