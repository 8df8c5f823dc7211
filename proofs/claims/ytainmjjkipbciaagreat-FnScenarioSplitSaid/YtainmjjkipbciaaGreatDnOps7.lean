import Derived.Test.YtainmjjkipbciaaGreatDnOps6
/- Part 7: append. -/
namespace Go.Dn
open Go.RowKit
variable {P:Program} {C:Ctx} {st:AS} {a:Act} {w:World} {R:Type} {r:R}
variable {e:CT} {hw:Nat->Nat}
structure Src (P:Program) (w:World) (size:Nat) (u:Value) (m:Nat) (news:List Value):Prop where
 len:∀w1:World,(Builtin.lenOf u).run P w1=.ok m w1
 first:∀w1:World,w1.heap=w.heap->(Builtin.firstCells size m u).run P w1=.ok news.toArray w1
theorem Ud {t t' ty te:TypeId}(ht:P.underlying t=some (.slice te))(he:I6 P te e){dt:TypeDesc}(T6:P.underlying t'=some dt)(hdt:∀k,dt≠ .int k){v u:Value}{xs ys:aw e.D}{fp:fg}{news:ir}{wA:aw fg}(gE:eZ hw w (.sl e) [v] xs fp)(Fi:Src P w e.size u ys.length news)(Cd:jS hw w e news ys wA)(gW:∀b∈fp++wA.flatten,b<w.heap.size)(C7:(fp++wA.flatten).Nodup)(DE:xs.length+ys.length<=1073741824): ∃v' w' hw' jI,(Builtin.append_ #[t,t'] ty #[v,u]).run P w=.ok v' w'/\eZ hw' w' (.sl e) [v'] (xs++ys) jI/\Fr (λb=>b∈fp) w w'/\(∀b,b<w.heap.size->b∉fp->hw' b=hw b)/\ (∀b o x,o<hw b->w.cell? ⟨b,o,none⟩=some x->o<hw' b/\w'.cell? ⟨b,o,none⟩=some x)/\jI.Nodup/\∀b∈jI,b<w'.heap.size/\(b∈fp\/b∈wA.flatten\/w.heap.size<=b):=by
 obtain⟨⟨inf,z,zO,sV,hby,hz,hzc⟩,_⟩:=he;have hzs:z.cells.size=e.size:=by rw[<-oh e,<-hzc];simp
 have YC:=e.size_pos;have hnz:(match dt with| .int _=>true|_=>false)=false:=by cases dt<;>simp;exact absurd rfl (hdt _)
 have Kh:=Fi.first w rfl
 have aeP:=Fi.first w.drew rfl
 have hlen:=Fi.len;have HJ:=Cd.1;have h63:¬((xs.length+ys.length:Nat):Int)>IntKind.i64.max:=by
  have:IntKind.i64.max=9223372036854775807:=by decide
  omega
 have grow:∀(PV:ir)(Lf:Nat)(fps:aw fg),(∀w1:World,w1.heap=w.heap->(Builtin.firstCells e.size xs.length v).run P w1=.ok PV.toArray w1)->(∃base,v=.slice base xs.length Lf)->Lf<xs.length+ys.length->
  jS hw w e PV xs fps->(fps.flatten++wA.flatten).Nodup->(∀b∈fps.flatten,b∈fp)->
  ∃v' w' hw' jI,(Builtin.append_ #[t,t'] ty #[v,u]).run P w=.ok v' w'/\eZ hw' w' (.sl e) [v'] (xs++ys) jI/\Fr (λb=>b∈fp) w w'/\(∀b,b<w.heap.size->b∉fp->hw' b=hw b)/\
  (∀b o x,o<hw b->w.cell? ⟨b,o,none⟩=some x->o<hw' b/\w'.cell? ⟨b,o,none⟩=some x)/\jI.Nodup/\∀b∈jI,b<w'.heap.size/\(b∈fp\/b∈wA.flatten\/w.heap.size<=b):=by
  intro PV Lf fps hold amw Fc Pn arS oD
  obtain⟨base,rfl⟩:=amw
  have amR:=hold w.drew rfl
  have gx:Builtin.nextslicecap (xs.length+ys.length) Lf*inf.bytes<=281474976710656:=by refine growslice_fits Fc ?_;have:(xs.length+ys.length)*inf.bytes<=1073741824*65536:=Nat.mul_le_mul DE hby;omega
  have ec:(Builtin.append_ #[t,t'] ty #[.slice base xs.length Lf,u]).run P w=
   .ok (.slice (some ⟨w.heap.size,0,none⟩) (xs.length+ys.length) (grownCap w (xs.length+ys.length) Lf te))
    (w.drew.alloc (.cells (PV.toArray++news.toArray++Builtin.zeroCells z.cells (grownCap w (xs.length+ys.length) Lf te-(xs.length+ys.length))) te)):=by
   have h1:¬(xs.length+ys.length<=Lf):=by omega
   have h2:¬(281474976710656<Builtin.nextslicecap (xs.length+ys.length) Lf*inf.bytes):=by omega
   simp only[Builtin.append_]
   simp only[underlying,Sem.run_bind,run_program,ht,T6,Result.andThen_ok,Sem.run_pure,sizeOf,typeInfo,zO,sV,List.getElem?_toArray,cr,eH,hlen,aK,aW,bX,
    h1,h63,false_and,bP,zeroValue,newRow]
   rw[aH (by simpa using h2)]
   simp only[Sem.run_bind,run_choose,Question.forced,aW,bX,Result.andThen_ok,run_program,zO,run_askRoom,Sem.run_pure]
   have e1:=amR
   have e2:=aeP
   simp only[World.drew]at e1 e2
   simp only[e1,e2,Result.andThen_ok,hz,Sem.run_pure,run_newObj]
   rfl
  have yt:=grownCap_ge w (xs.length+ys.length) Lf te
  generalize grownCap w (xs.length+ys.length) Lf te=nc at ec yt
  have ar3:(Builtin.zeroCells z.cells (nc-(xs.length+ys.length))).size=(nc-(xs.length+ys.length))*e.size:=by rw[size_zeroCells,hzs]
  let iJ:Array Value:=PV.toArray++news.toArray++Builtin.zeroCells z.cells (nc-(xs.length+ys.length))
  have hlo:=Pn.1
  have arz:iJ.size=nc*e.size:=by show(PV.toArray++news.toArray++Builtin.zeroCells z.cells (nc-(xs.length+ys.length))).size=_;rw[Array.size_append,Array.size_append,ar3];simp only[List.size_toArray,hlo,HJ,<-cA];congr 1;omega
  let hw':Nat->Nat:=λb=>if b=w.heap.size then(xs++ys).length*e.size else hw b
  have R5:(w.drew.alloc (.cells iJ te)).heap[w.heap.size]?=some (.cells iJ te (0,0)):=heap_alloc_new w.drew _
  have agf:∀b,b<w.heap.size->(w.drew.alloc (.cells iJ te)).heap[b]?=w.heap[b]?:=λb hb=>heap_alloc_old w.drew _ b hb
  have qT:iJ.toList.take ((xs++ys).length*e.size)=PV++news:=by
   show(PV.toArray++news.toArray++Builtin.zeroCells z.cells (nc-(xs.length+ys.length))).toList.take _=_;rw[Array.toList_append,Array.toList_append];have:(PV++news).length=(xs++ys).length*e.size:=by simp only[ai,hlo,HJ,cA]
   rw[<-this];exact List.take_left
  have ahR:∀b∈(fps++wA).flatten,b<w.heap.size:=by intro b hb;rw[dV,ay]at hb;exact gW b (by rcases hb with hb|hb;exact bw _ (oD b hb);exact bj _ hb)
  refine⟨_,_,hw',w.heap.size::(fps++wA).flatten,ec,?_,?_,?_,?_,?_,?_⟩
  ·have:=VJ (hw:=hw') (o0:=0) (xs:=xs++ys) (cap:=nc) R5 (by intro j _;simp) (by rw[cp];exact arz) (by simp;omega) (by simp[hw']) (fps:=fps++wA) (by rw[eV,qT];refine(Pn.append Cd).mono (λb hb=>?_);have gM:=ahR b hb;exact⟨agf b gM,by simp[hw',gH gM]⟩)
   rw[ai]at this
   exact this
  ·exact(Fr.drew _ w).trans (Fr.alloc _ _ _) (λb _ hh=>hh)
  ·intro b hb _;simp[hw',gH hb]
  ·intro b o x ho hx
   have hb:b<w.heap.size:=World.block_lt_of_cell? w _ hx
   exact⟨by simp[hw',gH hb];exact ho,by rw[World.cell?_of_block (a:=⟨b,o,none⟩) (agf b hb)];exact hx⟩
  ·refine db.2 ⟨λhm=>Nat.lt_irrefl _ (ahR _ hm),?_⟩
   rw[dV];exact arS
  ·intro b hb
   rcases cm.1 hb with rfl|hb
   ·exact⟨by simp,.inr (.inr (aU _))⟩
   ·have gM:=ahR b hb
    refine⟨by simp;omega,?_⟩
    rw[dV,ay]at hb
    rcases hb with hb|hb
    ·exact .inl (oD b hb)
    ·exact .inr (.inl hb)
 obtain⟨vv,hvv,ho⟩:=id gE;simp at hvv;subst hvv;rcases ho with⟨⟨ad,rfl⟩,rfl,rfl⟩|⟨b,o0,cap,arr,T,fr,fps,rfl,hb,qM,hs,hc,hh,rfl,hl,ho⟩;have arI:∀w1:World,(Builtin.firstCells e.size ([]:aw e.D).length (.slice ad 0 0)).run P w1=.ok ([]:ir).toArray w1:=by intro w1;cases ad with|none=>simp[Builtin.firstCells]|some ad=>exact run_firstCells_some (P:=P) w1 e.size 0 ad 0 0 [] (by simp) (λj x hj=>by simp at hj)
 by_cases hm:ys.length=0;have hy:ys=[]:=bV hm;subst hy;refine⟨.slice ad 0 0,w,hw,[],?_,⟨_,rfl,.inl ⟨⟨_,rfl⟩,rfl,rfl⟩⟩,Fr.refl _ _,λ_ _ _=>rfl,λ_ _ _ ho hx=>⟨ho,hx⟩,by simp,by simp⟩;simp only[Builtin.append_];simp only[underlying,Sem.run_bind,run_program,ht,T6,Result.andThen_ok,Sem.run_pure,sizeOf,typeInfo,zO,sV,List.getElem?_toArray,cr,eH,hlen,aW,bX,bU,bP];simp only[eI]at Kh;have amO:news=[]:=bV (by rw[HJ];simp);subst amO;simp[Kh];cases ad<;>simp[storeCells];refine grow [] 0 [] (λw1 _=>arI w1) ⟨ad,by simp⟩ (by simp;omega) (jS.nil _ _ _) (by simpa using C7) (by simp);have Pn:=G4 hs hc hl ho;have hln:o0+xs.length*e.size<=arr.size:=by rw[hs];exact Nat.add_le_add_left (cv _ hc) _
 have hol:((arr.toList.drop o0).take (xs.length*e.size)).length=xs.length*e.size:=Pn.1;by_cases abI:xs.length+ys.length<=cap;have gx:o0+xs.length*e.size+news.length<=arr.size:=by rw[HJ,hs,ft,<-cA];exact Nat.add_le_add_left (cv _ abI) _
 have lX:=uu P b (o0+xs.length*e.size) T fr news 0 w arr hb qM (by simpa using gx) Cd.mh;simp only[dT]at lX;have ec:(Builtin.append_ #[t,t'] ty #[.slice (some ⟨b,o0,none⟩) xs.length cap,u]).run P w=.ok (.slice (some ⟨b,o0,none⟩) (xs.length+ys.length) cap) (sC w b (ew arr (o0+xs.length*e.size) news) T fr):=by simp only[Builtin.append_];simp only[underlying,Sem.run_bind,run_program,ht,T6,Result.andThen_ok,Sem.run_pure,sizeOf,typeInfo,zO,sV,List.getElem?_toArray,cr,eH,hlen,aW,bX,bU,bP,abI,Kh,mx,lX]
 have DD:=lp hb;rw[List.cons_append]at C7;have uz:b∉fps.flatten++wA.flatten:=(db.1 C7).1;let hw':Nat->Nat:=λc=>if c=b then o0+(xs++ys).length*e.size else hw c
 refine⟨_,_,hw',b::(fps++wA).flatten,ec,?_,?_,?_,?_,?_,?_⟩;have qT:((ew arr (o0+xs.length*e.size) news).toList.drop o0).take ((xs++ys).length*e.size)=(arr.toList.drop o0).take (xs.length*e.size)++news:=by
  have h2:((arr.toList.drop o0).take (xs.length*e.size)++news).length=(xs++ys).length*e.size:=by simp only[ai,hol,HJ,cA]
  have h3:(xs++ys).length*e.size=xs.length*e.size+news.length:=by rw[ai,cA,HJ]
  apply cz;intro j;rw[iX];by_cases hj:j<(xs++ys).length*e.size;rw[aF hj,wi gx];by_cases h1:j<xs.length*e.size;rw[lR,bD (by omega),iX,aF h1];rw[zip,bq (by omega),hol];congr 1;omega;rw[aH hj,br (by omega)]
 have:=VJ (hw:=hw') (w:=sC w b (ew arr (o0+xs.length*e.size) news) T fr) (xs:=xs++ys) (cap:=cap) (fps:=fps++wA) (uW DD) (λj hj=>qM j (by rwa[ik]at hj)) (by rw[ik];exact hs) (by simp;omega) (by simp[hw']) (by
  rw[qT];refine(Pn.append Cd).mono (λc wQ=>?_);have Az:c≠b:=by rintro rfl;exact uz (by rwa[dV]at wQ)
  exact⟨lO Az,by simp[hw',Az]⟩)
 rw[ai]at this;exact this;exact⟨rfl,rfl,rfl,by rw[kT];exact aU _,λc _ wQ=>lO (λe=>wQ (by simp[e]))⟩;intro c _ wQ;have Az:c≠b:=λe=>wQ (by simp[e]);simp[hw',Az];intro c o x Iu hx;by_cases hcb:c=b;subst hcb;rw[hh]at Iu;refine⟨?_,?_⟩;simp only[hw',bP,ai,cA];omega;rw[nI (uW DD),<-cl,wi gx,lR,cl,<-nI hb];exact hx;exact⟨by simp[hw',hcb];exact Iu,by rw[World.cell?_of_block (a:=⟨c,o,none⟩) (lO hcb)];exact hx⟩;refine db.2 ⟨by rw[dV];exact uz,?_⟩;rw[dV];exact(db.1 C7).2;intro c wQ;rw[kT];rcases cm.1 wQ with rfl|wQ;exact⟨DD,.inl (by simp)⟩;rw[dV,ay]at wQ;rcases wQ with wQ|wQ;exact⟨gW c (by simp[wQ]),.inl (by simp[wQ])⟩;exact⟨gW c (by simp[wQ]),.inr (.inl wQ)⟩;refine grow ((arr.toList.drop o0).take (xs.length*e.size)) cap fps (λw1 hw1=>?_) ⟨_,rfl⟩ (by omega) Pn ?_ (λc wQ=>by simp[wQ]);refine run_firstCells_some (P:=P) w1 e.size xs.length ⟨b,o0,none⟩ xs.length cap _ hol (λj x hj=>?_);have hb1:w1.heap[b]?=some (.cells arr T fr):=by rw[hw1];exact hb
 rw[mx,nI hb1];rw[iX]at hj;split at hj;simpa using hj;cases hj;rw[List.cons_append]at C7;exact(db.1 C7).2
def sO (w:World)(b o n:Nat):ir:=(List.range n).map λj=>(w.cell? ⟨b,o+j,none⟩).getD undef
theorem XH {S:Nat->Nat->Prop}{u:Value}{ys:aw e.D}(h:iS w S (.sl e) [u] ys)(hf:e.flat=true)(hw:Nat->Nat): ∃news,Src P w e.size u ys.length news/\jS hw w e news ys (List.replicate ys.length []):=by
 obtain⟨v,hv,h⟩:=h;simp at hv;subst hv;rcases h with⟨⟨ad,rfl⟩,rfl⟩|⟨b,o,cap,rfl,hc,h⟩;cases ad with|none=>exact⟨[],⟨λ_=>rfl,λ_ _=>rfl⟩,jS.nil _ _ _⟩|some ad=>exact⟨[],⟨λ_=>rfl,λw1 _=>run_firstCells_some (P:=P) w1 e.size 0 ad 0 0 [] (by simp) (λj x hj=>by simp at hj)⟩,jS.nil _ _ _⟩
 have zM:∀j,j<ys.length*e.size->∃x,w.cell? ⟨b,o+j,none⟩=some x:=by
  intro j hj;have hi:j/e.size<ys.length:=by rw[Nat.div_lt_iff_lt_mul e.size_pos];exact hj
  obtain⟨cs,GD,hr⟩:=h (j/e.size) _ (al hi);have hm:j%e.size<cs.length:=by rw[iS.length hr];exact Nat.mod_lt _ e.size_pos
  have:=(GD (j%e.size) _ (al hm)).2;rw[ft,Nat.mul_comm,Nat.div_add_mod]at this;exact⟨_,this⟩
 have gI:∀j x,(sO w b o (ys.length*e.size))[j]?=some x->w.cell? ⟨b,o+j,none⟩=some x:=by intro j x hx;simp only[sO,List.getElem?_map]at hx;rcases cf j (ys.length*e.size)with hj|hj;rw[List.getElem?_range hj]at hx;obtain⟨y,hy⟩:=zM j hj;simp[hy]at hx;rw[hy,hx];rw[br (by simpa using hj)]at hx;cases hx
 have hlen:(sO w b o (ys.length*e.size)).length=ys.length*e.size:=by simp[sO]
 refine⟨sO w b o (ys.length*e.size),⟨λ_=>rfl,λw1 hw1=>?_⟩,⟨hlen,by simp,λi y f hy hf'=>?_⟩⟩;refine run_firstCells_some (P:=P) w1 e.size ys.length ⟨b,o,none⟩ ys.length cap _ hlen (λj x hj=>?_);rw[mx];have:=gI j x hj;simpa[World.cell?,hw1]using this;have hi:i<ys.length:=(aG.1 hy).1;have Ax:f=[]:=by rw[dX,aF hi]at hf';simpa using hf'.symm
 subst Ax;obtain⟨cs,GD,hr⟩:=h i y hy;have hm:(i+1)*e.size<=ys.length*e.size:=cv _ hi;rw[cA,eY]at hm;have e1:((sO w b o (ys.length*e.size)).drop (i*e.size)).take e.size=cs:=by
  apply cz;intro j;rw[iX];have hcl:=iS.length hr;split;rename_i hj;have hjc:j<cs.length:=by omega
  have hx:=(GD j _ (al hjc)).2;have h2:(sO w b o (ys.length*e.size))[i*e.size+j]?=some cs[j]:=by simp only[sO,List.getElem?_map,List.getElem?_range (show i*e.size+j<ys.length*e.size by omega),dc];rw[<-ft,hx];rfl
  rw[h2,al hjc];rw[br (by omega)]
 rw[e1];exact J5 hr hf
theorem afN {u:Value}{ys:aw e.D}{fp:fg}(h:eZ hw w (.sl e) [u] ys fp): ∃news wA,Src P w e.size u ys.length news/\jS hw w e news ys wA/\(∀b∈wA.flatten,b∈fp)/\(fp.Nodup->wA.flatten.Nodup):=by
 obtain⟨v,hv,h⟩:=h;simp at hv;subst hv;rcases h with⟨⟨ad,rfl⟩,rfl,rfl⟩|⟨b,o0,cap,arr,T,fr,fps,rfl,hb,qM,hs,hc,hh,rfl,hl,ho⟩;refine⟨[],[],⟨λ_=>rfl,λw1 _=>?_⟩,jS.nil _ _ _,by simp,by simp⟩;cases ad with|none=>rfl|some ad=>exact run_firstCells_some (P:=P) w1 e.size 0 ad 0 0 [] (by simp) (λj x hj=>by simp at hj)
 have Pn:=G4 hs hc hl ho;refine⟨_,fps,⟨λ_=>rfl,λw1 hw1=>?_⟩,Pn,λc wQ=>by simp[wQ],λhn=>(db.1 hn).2⟩;refine run_firstCells_some (P:=P) w1 e.size ys.length ⟨b,o0,none⟩ ys.length cap _ Pn.1 (λj x hj=>?_);have hb1:w1.heap[b]?=some (.cells arr T fr):=by rw[hw1];exact hb
 rw[mx,nI hb1];rw[iX]at hj;split at hj;simpa using hj;cases hj
theorem afO (s:aw UInt8)(hw:Nat->Nat):∃news,Src P w (CT.size (.int .u8)) (.string ⟨s.toArray⟩) (di s).length news/\jS hw w (.int .u8) news (di s) (List.replicate (di s).length []):=by
 have hl:(di s).length=s.length:=by simp[di]
 refine⟨(di s).map (Value.int .u8),⟨λw1=>by simp[Builtin.lenOf,vD,hl],λw1 _=>?_⟩,⟨by simp[CT.size],by simp,λi y f hy hf=>?_⟩⟩;have:(ByteArray.mk s.toArray).extract 0 s.length=ByteArray.mk s.toArray:=by rw[extract_mk];simp
 simp[Builtin.firstCells,this,di];have hi:i<(di s).length:=(aG.1 hy).1;have hf':f=[]:=by rw[dX,aF hi]at hf;simpa using hf.symm
 subst hf';refine⟨?_,rfl⟩;apply cz;intro j;rw[iX];simp only[CT.size,my];cases j with|zero=>simp[hy]|succ j=>simp
theorem Rs {o:Oper}{s x:Operand}{t t':TypeId}(ho:o.op=.call {callee:=.builtin .append,args:=#[s,x],argTypes:=#[t,t']}){v:Value}{w':World}(h:(Builtin.append_ #[t,t'] o.type #[a.eval s,a.eval x]).run P w=.ok v w'):(execOp a.eval o).run P w=.ok (.value v) w':=by
 have e1:(#[s,x]:Array Operand).map a.eval=#[a.eval s,a.eval x]:=by simp
 simp only[execOp,ho,resolve,e1,Sem.run_bind,Sem.run_pure,Result.andThen_ok,invoke,builtin];show((Builtin.append_ #[t,t'] o.type #[a.eval s,a.eval x]).run P w).andThen _=_;rw[h];rfl
theorem QM {E:Env}(hE:ja P E.ty){o:Oper}{args:Array Operand}{ts:Array TypeId}(ho:o.op=.call {callee:=.builtin .append,args,argTypes:=ts})(h:mZ C st a w){K:AS->ax R}(hk:uZ E o ts.toList args.toList st K=some r):lS P C o a w K r:=by
 obtain⟨g,hg⟩:=h;unfold uZ at hk;split at hk;rename_i t t' s x rH fM;have ea:args=#[s,x]:=by apply eQ;simpa using fM
 have et:ts=#[t,t']:=by apply eQ;simpa using rH
 subst ea;subst et;split at hk;rename_i tag e xs st1 Pt;obtain⟨g1,hg1⟩:=hg.take s;rw[Pt]at hg1;simp only[cu]at hg1;obtain⟨g2,Ek⟩:=hg1.take x
 have fin:∀(u:AV)(st2:AS),st1.take x=(u,st2)->dP C g2 st2 a w [(a.eval s,.val false [.sl (.own tag) e xs]),(a.eval x,u)]->∀(ys:aw e.D)(news:ir)(wA:aw fg)(fq:fg),
  fR (cG C g2 st2 w) (a.eval x) u fq->(∀b∈fq,g2.ef b=some (.hand 1))->E.sl t=some e->∀dt,P.underlying t'=some dt->(∀k,dt≠ .int k)->
  Src P w e.size (a.eval x) ys.length news->jS g2.hw w e news ys wA->(∀b∈wA.flatten,b∈fq)->wA.flatten.Nodup->xs.length+ys.length<=1073741824->
  K (st2.oE o.dst e (xs++ys))=some r->lS P C o a w K r:=by
  intro u st2 _ Ek ys news wA fq _ hlq hT dt hdt arD Fi Cd oD C7 DE Pq
  obtain⟨fp,hrs,arU,abB⟩:=Ek.hands 0 _ _ rfl
  have gE:=(ej hrs).1
  obtain⟨te,hu,he⟩:=CD hE hT
  have gW:∀b∈fp++wA.flatten,b<w.heap.size:=by intro b hb;rcases ay.1 hb with hb|hb;exact(Ek.fS b _ (abB b hb)).1;exact(Ek.fS b _ (hlq b (oD b hb))).1
  have arQ:(fp++wA.flatten).Nodup:=by refine aI.2 ⟨arU,C7,?_⟩;rintro b hb c hc rfl;have h1:=abB b hb;rw[hlq b (oD b hc)]at h1;cases h1
  obtain⟨v',w',hw',jI,ec,Ff,jf,C6,Fg,Pr,GF⟩:=Ud (ty:=o.type) hu he hdt arD gE Fi Cd gW arQ DE
  refine⟨v',w',_,.inl (Rs ho ec),?_,Pq⟩
  refine Ek.K9 o.dst (hw':=hw') (fp:=jI) ⟨jf.os,jf.tape,jf.output,jf.size,λb hb hh=>jf.block b hb (λhm=>hh (by rw[abB b hm];rfl))⟩ ?_ Fg Ff Pr ?_
  ·intro b y hb hh
   refine C6 b (Ek.fS b y hb).1 (λhm=>hh ?_)
   rw[<-hb,abB b hm];rfl
  ·intro b hb
   obtain⟨h1,h2⟩:=GF b hb
   refine⟨h1,?_⟩
   rcases h2 with h2|h2|h2
   ·exact .inl (by rw[abB b h2];rfl)
   ·exact .inl (by rw[hlq b (oD b h2)];rfl)
   ·exact .inr h2
 split at hk;rename_i fl e' ys st2 Fj;split at hk;rename_i hee;subst hee;split at hk;rename_i hc;obtain⟨hT,hT',hgv⟩:=hc;unfold room at hk;split at hk;rename_i DE;rw[Fj]at Ek;have UR:dP C g2 st2 a w [(a.eval s,.val false [.sl (.own tag) e' xs]),(a.eval x,.val false [.sl fl e' ys])]:=Ek;obtain⟨fq,YE,hnq,hlq⟩:=UR.hands 1 _ _ rfl;obtain⟨te',Pv,_⟩:=CD hE hT';have wB:st2.ep=st.ep:=by have h1:= @Qw st s;have h2:= @Qw st1 x;rw[Pt]at h1;rw[Fj]at h2;exact h2.trans h1
 have hcx:=ej YE;cases fl with
 |nest _ _ _ _ _ _=>simp[pj.pw]at hgv
 |part _ _ _ _=>simp[pj.pw]at hgv
 |fa _ _ _=>simp[pj.pw]at hgv
 |own tg=>obtain⟨news,wA,Fi,Cd,oD,C7⟩:=afN (P:=P) hcx.1;exact fin _ st2 Fj UR ys news wA fq YE hlq hT _ Pv (by simp) Fi Cd oD (C7 hnq) DE hk
 |arg _=>obtain⟨news,Fi,Cd⟩:=XH (P:=P) hcx.2 (by simpa[pj.pw]using hgv) g2.hw;exact fin _ st2 Fj UR ys news _ fq YE hlq hT _ Pv (by simp) Fi Cd (by simp) (by simp) DE hk
 |loc ep pv=>
  simp only[pj.pw,ae,aV]at hgv;have arG:ep=(cG C g2 st2 w).ep:=by show ep=st2.ep;rw[wB];exact hgv.1
  obtain⟨news,Fi,Cd⟩:=XH (P:=P) (hcx.2.2.2.1 arG) hgv.2 g2.hw;exact fin _ st2 Fj UR ys news _ fq YE hlq hT _ Pv (by simp) Fi Cd (by simp) (by simp) DE hk
 cases hk;cases hk;cases hk;rename_i s0 st2 Fj;split at hk;rename_i hee;subst hee;split at hk;rename_i hc;obtain⟨hT,hT'⟩:=hc;unfold room at hk;split at hk;rename_i DE;rw[Fj]at Ek;have UR:dP C g2 st2 a w [(a.eval s,.val false [.sl (.own tag) (.int .u8) xs]),(a.eval x,.val false [.str s0])]:=Ek;obtain⟨fq,YE,hnq,hlq⟩:=UR.hands 1 _ _ rfl;have hcx:=ej YE;obtain⟨news,Fi,Cd⟩:=afO (P:=P) (w:=w) s0 g2.hw;rw[<-hcx.1]at Fi;have hl:(di s0).length=s0.length:=by simp[di]
 exact fin _ st2 Fj UR (di s0) news _ fq YE hlq hT _ (Qp hE hT') (by simp) Fi Cd (by simp) (by simp) (by rw[hl];exact DE) hk;cases hk;cases hk;cases hk;cases hk;cases hk;cases hk
end Go.Dn
