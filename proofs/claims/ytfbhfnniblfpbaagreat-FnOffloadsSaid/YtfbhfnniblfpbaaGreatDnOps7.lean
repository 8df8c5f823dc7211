import Derived.Test.YtfbhfnniblfpbaaGreatDnOps6
/- Part 7: append. -/
namespace Go.Dn
open Go.RowKit
variable {P:Program} {C:Ctx} {st:AS} {a:Act} {w:World} {R:Type} {r:R}
variable {e:CT} {hw:Nat->Nat}
structure Src (P:Program) (w:World) (size:Nat) (u:Value) (m:Nat) (news:List Value):Prop where
 len:∀w1:World,(Builtin.lenOf u).run P w1=.ok m w1
 first:∀w1:World,w1.heap=w.heap->(Builtin.firstCells size m u).run P w1=.ok news.toArray w1
theorem aai {t t' ty te:TypeId}(ht:P.underlying t=some (.slice te))(he:PM P te e){dt:TypeDesc}(ht':P.underlying t'=some dt)(hdt:∀k,dt≠ .int k){v u:Value}{xs ys:ax e.D}{fp:fi}{news:jI}{BE:ax fi}(ix:fZ hw w (.sl e) [v] xs fp)(La:Src P w e.size u ys.length news)(HJ:mq hw w e news ys BE)(iA:∀b∈fp++BE.flatten,b<w.heap.size)(HN:(fp++BE.flatten).Nodup)(Jy:xs.length+ys.length<=1073741824): ∃v' w' hw' kZ,(Builtin.append_ #[t,t'] ty #[v,u]).run P w=.ok v' w'/\fZ hw' w' (.sl e) [v'] (xs++ys) kZ/\Fr (λb=>b∈fp) w w'/\(∀b,b<w.heap.size->b∉fp->hw' b=hw b)/\ (∀b o x,o<hw b->w.cell? ⟨b,o,none⟩=some x->o<hw' b/\w'.cell? ⟨b,o,none⟩=some x)/\kZ.Nodup/\∀b∈kZ,b<w'.heap.size/\(b∈fp\/b∈BE.flatten\/w.heap.size<=b):=by
 obtain⟨⟨inf,z,Fu,wv,hby,hz,hzc⟩,_⟩:=he;have hzs:z.cells.size=e.size:=by rw[<-rR e,<-hzc];simp
 have aep:=e.size_pos;have hnz:(match dt with| .int _=>true|_=>false)=false:=by cases dt<;>simp;exact absurd rfl (hdt _)
 have VZ:=La.first w rfl
 have ajG:=La.first w.drew rfl
 have hlen:=La.len;have Oa:=HJ.1;have h63:¬((xs.length+ys.length:Nat):Int)>IntKind.i64.max:=by
  have:IntKind.i64.max=9223372036854775807:=by decide
  omega
 have grow:∀(Wp:jI)(RT:Nat)(fps:ax fi),(∀w1:World,w1.heap=w.heap->(Builtin.firstCells e.size xs.length v).run P w1=.ok Wp.toArray w1)->(∃base,v=.slice base xs.length RT)->RT<xs.length+ys.length->
  mq hw w e Wp xs fps->(fps.flatten++BE.flatten).Nodup->(∀b∈fps.flatten,b∈fp)->
  ∃v' w' hw' kZ,(Builtin.append_ #[t,t'] ty #[v,u]).run P w=.ok v' w'/\fZ hw' w' (.sl e) [v'] (xs++ys) kZ/\Fr (λb=>b∈fp) w w'/\(∀b,b<w.heap.size->b∉fp->hw' b=hw b)/\
  (∀b o x,o<hw b->w.cell? ⟨b,o,none⟩=some x->o<hw' b/\w'.cell? ⟨b,o,none⟩=some x)/\kZ.Nodup/\∀b∈kZ,b<w'.heap.size/\(b∈fp\/b∈BE.flatten\/w.heap.size<=b):=by
  intro Wp RT fps hold amB Jk VX asP sB
  obtain⟨base,rfl⟩:=amB
  have amV:=hold w.drew rfl
  have iW:Builtin.nextslicecap (xs.length+ys.length) RT*inf.bytes<=281474976710656:=by refine growslice_fits Jk ?_;have:(xs.length+ys.length)*inf.bytes<=1073741824*65536:=Nat.mul_le_mul Jy hby;omega
  have fz:(Builtin.append_ #[t,t'] ty #[.slice base xs.length RT,u]).run P w=
   .ok (.slice (some ⟨w.heap.size,0,none⟩) (xs.length+ys.length) (grownCap w (xs.length+ys.length) RT te))
    (w.drew.alloc (.cells (Wp.toArray++news.toArray++Builtin.zeroCells z.cells (grownCap w (xs.length+ys.length) RT te-(xs.length+ys.length))) te)):=by
   have h1:¬(xs.length+ys.length<=RT):=by omega
   have h2:¬(281474976710656<Builtin.nextslicecap (xs.length+ys.length) RT*inf.bytes):=by omega
   simp only[Builtin.append_]
   simp only[underlying,Sem.run_bind,run_program,ht,ht',Result.andThen_ok,Sem.run_pure,sizeOf,typeInfo,Fu,wv,List.getElem?_toArray,df,fS,hlen,aP,bm,cG,
    h1,h63,false_and,cL,zeroValue,newRow]
   rw[aK (by simpa using h2)]
   simp only[Sem.run_bind,run_choose,Question.forced,bm,cG,Result.andThen_ok,run_program,Fu,run_askRoom,Sem.run_pure]
   have e1:=amV
   have e2:=ajG
   simp only[World.drew]at e1 e2
   simp only[e1,e2,Result.andThen_ok,hz,Sem.run_pure,run_newObj]
   rfl
  have B0:=grownCap_ge w (xs.length+ys.length) RT te
  generalize grownCap w (xs.length+ys.length) RT te=nc at fz B0
  have as1:(Builtin.zeroCells z.cells (nc-(xs.length+ys.length))).size=(nc-(xs.length+ys.length))*e.size:=by rw[size_zeroCells,hzs]
  let kq:Array Value:=Wp.toArray++news.toArray++Builtin.zeroCells z.cells (nc-(xs.length+ys.length))
  have hlo:=VX.1
  have asw:kq.size=nc*e.size:=by show(Wp.toArray++news.toArray++Builtin.zeroCells z.cells (nc-(xs.length+ys.length))).size=_;rw[Array.size_append,Array.size_append,as1];simp only[List.size_toArray,hlo,Oa,<-dg];congr 1;omega
  let hw':Nat->Nat:=λb=>if b=w.heap.size then(xs++ys).length*e.size else hw b
  have Ya:(w.drew.alloc (.cells kq te)).heap[w.heap.size]?=some (.cells kq te (0,0)):=heap_alloc_new w.drew _
  have akW:∀b,b<w.heap.size->(w.drew.alloc (.cells kq te)).heap[b]?=w.heap[b]?:=λb hb=>heap_alloc_old w.drew _ b hb
  have vF:kq.toList.take ((xs++ys).length*e.size)=Wp++news:=by
   show(Wp.toArray++news.toArray++Builtin.zeroCells z.cells (nc-(xs.length+ys.length))).toList.take _=_;rw[Array.toList_append,Array.toList_append];have:(Wp++news).length=(xs++ys).length*e.size:=by simp only[aq,hlo,Oa,dg]
   rw[<-this];exact List.take_left
  have alz:∀b∈(fps++BE).flatten,b<w.heap.size:=by intro b hb;rw[dY,aB]at hb;exact iA b (by rcases hb with hb|hb;exact aU _ (sB b hb);exact bj _ hb)
  refine⟨_,_,hw',w.heap.size::(fps++BE).flatten,fz,?_,?_,?_,?_,?_,?_⟩
  ·have:=abO (hw:=hw') (o0:=0) (xs:=xs++ys) (cap:=nc) Ya (by intro j _;simp) (by rw[cJ];exact asw) (by simp;omega) (by simp[hw']) (fps:=fps++BE) (by rw[fR,vF];refine(VX.append HJ).mono (λb hb=>?_);have iq:=alz b hb;exact⟨akW b iq,by simp[hw',jj iq]⟩)
   rw[aq]at this
   exact this
  ·exact(Fr.drew _ w).trans (Fr.alloc _ _ _) (λb _ hh=>hh)
  ·intro b hb _;simp[hw',jj hb]
  ·intro b o x ho hx
   have hb:b<w.heap.size:=World.block_lt_of_cell? w _ hx
   exact⟨by simp[hw',jj hb];exact ho,by rw[World.cell?_of_block (a:=⟨b,o,none⟩) (akW b hb)];exact hx⟩
  ·refine dH.2 ⟨λhm=>pn _ (alz _ hm),?_⟩
   rw[dY];exact asP
  ·intro b hb
   rcases cy.1 hb with rfl|hb
   ·exact⟨by simp,.inr (.inr (bc _))⟩
   ·have iq:=alz b hb
    refine⟨by simp;omega,?_⟩
    rw[dY,aB]at hb
    rcases hb with hb|hb
    ·exact .inl (sB b hb)
    ·exact .inr (.inl hb)
 obtain⟨vv,hvv,ho⟩:=id ix;simp at hvv;subst hvv;rcases ho with⟨⟨ad,rfl⟩,rfl,rfl⟩|⟨b,o0,cap,arr,T,fr,fps,rfl,hb,vx,hs,hc,hh,rfl,hl,ho⟩;have asF:∀w1:World,(Builtin.firstCells e.size ([]:ax e.D).length (.slice ad 0 0)).run P w1=.ok ([]:jI).toArray w1:=by intro w1;cases ad with|none=>simp[Builtin.firstCells]|some ad=>exact run_firstCells_some (P:=P) w1 e.size 0 ad 0 0 [] (by simp) (λj x hj=>by simp at hj)
 by_cases hm:ys.length=0;have hy:ys=[]:=cb hm;subst hy;refine⟨.slice ad 0 0,w,hw,[],?_,⟨_,rfl,.inl ⟨⟨_,rfl⟩,rfl,rfl⟩⟩,Fr.refl _ _,λ_ _ _=>rfl,λ_ _ _ ho hx=>⟨ho,hx⟩,by simp,by simp⟩;simp only[Builtin.append_];simp only[underlying,Sem.run_bind,run_program,ht,ht',Result.andThen_ok,Sem.run_pure,sizeOf,typeInfo,Fu,wv,List.getElem?_toArray,df,fS,hlen,bm,cG,cA,cL];simp only[eO]at VZ;have amS:news=[]:=cb (by rw[Oa];simp);subst amS;simp[VZ];cases ad<;>simp[storeCells];refine grow [] 0 [] (λw1 _=>asF w1) ⟨ad,by simp⟩ (by simp;omega) (mq.nil _ _ _) (by simpa using HN) (by simp);have VX:=Ns hs hc hl ho;have hln:o0+xs.length*e.size<=arr.size:=by rw[hs];exact Nat.add_le_add_left (dw _ hc) _
 have hol:((arr.toList.drop o0).take (xs.length*e.size)).length=xs.length*e.size:=VX.1;by_cases ahA:xs.length+ys.length<=cap;have iW:o0+xs.length*e.size+news.length<=arr.size:=by rw[Oa,hs,gn,<-dg];exact Nat.add_le_add_left (dw _ ahA) _
 have mI:=yW P b (o0+xs.length*e.size) T fr news 0 w arr hb vx (by simpa using iW) HJ.oT;simp only[eT]at mI;have fz:(Builtin.append_ #[t,t'] ty #[.slice (some ⟨b,o0,none⟩) xs.length cap,u]).run P w=.ok (.slice (some ⟨b,o0,none⟩) (xs.length+ys.length) cap) (xj w b (fP arr (o0+xs.length*e.size) news) T fr):=by simp only[Builtin.append_];simp only[underlying,Sem.run_bind,run_program,ht,ht',Result.andThen_ok,Sem.run_pure,sizeOf,typeInfo,Fu,wv,List.getElem?_toArray,df,fS,hlen,bm,cG,cA,cL,ahA,VZ,pj,mI]
 have Jw:=nR hb;rw[ig]at HN;have zb:b∉fps.flatten++BE.flatten:=(dH.1 HN).1;let hw':Nat->Nat:=λc=>if c=b then o0+(xs++ys).length*e.size else hw c
 refine⟨_,_,hw',b::(fps++BE).flatten,fz,?_,?_,?_,?_,?_,?_⟩;have vF:((fP arr (o0+xs.length*e.size) news).toList.drop o0).take ((xs++ys).length*e.size)=(arr.toList.drop o0).take (xs.length*e.size)++news:=by
  have h2:((arr.toList.drop o0).take (xs.length*e.size)++news).length=(xs++ys).length*e.size:=by simp only[aq,hol,Oa,dg]
  have h3:(xs++ys).length*e.size=xs.length*e.size+news.length:=by rw[aq,dg,Oa]
  apply dB;intro j;rw[kK];by_cases hj:j<(xs++ys).length*e.size;rw[aI hj,Bo iW];by_cases h1:j<xs.length*e.size;rw[lH,bB (by omega),kK,aI h1];rw[zip,bJ (by omega),hol];congr 1;omega;rw[aK hj,cd (by omega)]
 have:=abO (hw:=hw') (w:=xj w b (fP arr (o0+xs.length*e.size) news) T fr) (xs:=xs++ys) (cap:=cap) (fps:=fps++BE) (Ac Jw) (λj hj=>vx j (by rwa[jR]at hj)) (by rw[jR];exact hs) (by simp;omega) (by simp[hw']) (by
  rw[vF];refine(VX.append HJ).mono (λc BF=>?_);have Fa:c≠b:=by rintro rfl;exact zb (by rwa[dY]at BF)
  exact⟨oG Fa,by simp[hw',Fa]⟩)
 rw[aq]at this;exact this;exact⟨rfl,rfl,rfl,by rw[nz];exact bc _,λc _ BF=>oG (λe=>BF (by simp[e]))⟩;intro c _ BF;have Fa:c≠b:=λe=>BF (by simp[e]);simp[hw',Fa];intro c o x OX hx;by_cases hcb:c=b;subst hcb;rw[hh]at OX;refine⟨?_,?_⟩;simp only[hw',cL,aq,dg];omega;rw[rb (Ac Jw),<-cK,Bo iW,lH,cK,<-rb hb];exact hx;exact⟨by simp[hw',hcb];exact OX,by rw[World.cell?_of_block (a:=⟨c,o,none⟩) (oG hcb)];exact hx⟩;refine dH.2 ⟨by rw[dY];exact zb,?_⟩;rw[dY];exact(dH.1 HN).2;intro c BF;rw[nz];rcases cy.1 BF with rfl|BF;exact⟨Jw,.inl (by simp)⟩;rw[dY,aB]at BF;rcases BF with BF|BF;exact⟨iA c (by simp[BF]),.inl (by simp[BF])⟩;exact⟨iA c (by simp[BF]),.inr (.inl BF)⟩;refine grow ((arr.toList.drop o0).take (xs.length*e.size)) cap fps (λw1 hw1=>?_) ⟨_,rfl⟩ (by omega) VX ?_ (λc BF=>by simp[BF]);refine run_firstCells_some (P:=P) w1 e.size xs.length ⟨b,o0,none⟩ xs.length cap _ hol (λj x hj=>?_);have hb1:w1.heap[b]?=some (.cells arr T fr):=by rw[hw1];exact hb
 rw[pj,rb hb1];rw[kK]at hj;split at hj;simpa using hj;cases hj;rw[ig]at HN;exact(dH.1 HN).2
def xz (w:World)(b o n:Nat):jI:=(List.range n).map λj=>(w.cell? ⟨b,o+j,none⟩).getD undef
theorem adz {S:Nat->Nat->Prop}{u:Value}{ys:ax e.D}(h:kE w S (.sl e) [u] ys)(hf:e.flat=true)(hw:Nat->Nat): ∃news,Src P w e.size u ys.length news/\mq hw w e news ys (List.replicate ys.length []):=by
 obtain⟨v,hv,h⟩:=h;simp at hv;subst hv;rcases h with⟨⟨ad,rfl⟩,rfl⟩|⟨b,o,cap,rfl,hc,h⟩;cases ad with|none=>exact⟨[],⟨λ_=>rfl,λ_ _=>rfl⟩,mq.nil _ _ _⟩|some ad=>exact⟨[],⟨λ_=>rfl,λw1 _=>run_firstCells_some (P:=P) w1 e.size 0 ad 0 0 [] (by simp) (λj x hj=>by simp at hj)⟩,mq.nil _ _ _⟩
 have Fq:∀j,j<ys.length*e.size->∃x,w.cell? ⟨b,o+j,none⟩=some x:=by
  intro j hj;have hi:j/e.size<ys.length:=by rw[Nat.div_lt_iff_lt_mul e.size_pos];exact hj
  obtain⟨cs,MX,hr⟩:=h (j/e.size) _ (ay hi);have hm:j%e.size<cs.length:=by rw[kE.length hr];exact Nat.mod_lt _ e.size_pos
  have:=(MX (j%e.size) _ (ay hm)).2;rw[gn,Nat.mul_comm,Nat.div_add_mod]at this;exact⟨_,this⟩
 have jk:∀j x,(xz w b o (ys.length*e.size))[j]?=some x->w.cell? ⟨b,o+j,none⟩=some x:=by intro j x hx;simp only[xz,List.getElem?_map]at hx;rcases ca j (ys.length*e.size)with hj|hj;rw[List.getElem?_range hj]at hx;obtain⟨y,hy⟩:=Fq j hj;simp[hy]at hx;rw[hy,hx];rw[cd (by simpa using hj)]at hx;cases hx
 have hlen:(xz w b o (ys.length*e.size)).length=ys.length*e.size:=by simp[xz]
 refine⟨xz w b o (ys.length*e.size),⟨λ_=>rfl,λw1 hw1=>?_⟩,⟨hlen,by simp,λi y f hy hf'=>?_⟩⟩;refine run_firstCells_some (P:=P) w1 e.size ys.length ⟨b,o,none⟩ ys.length cap _ hlen (λj x hj=>?_);rw[pj];have:=jk j x hj;simpa[World.cell?,hw1]using this;have hi:i<ys.length:=(aD.1 hy).1;have F1:f=[]:=by rw[dU,aI hi]at hf';simpa using hf'.symm
 subst F1;obtain⟨cs,MX,hr⟩:=h i y hy;have hm:(i+1)*e.size<=ys.length*e.size:=dw _ hi;rw[dg,fT]at hm;have e1:((xz w b o (ys.length*e.size)).drop (i*e.size)).take e.size=cs:=by
  apply dB;intro j;rw[kK];have hcl:=kE.length hr;split;rename_i hj;have hjc:j<cs.length:=by omega
  have hx:=(MX j _ (ay hjc)).2;have h2:(xz w b o (ys.length*e.size))[i*e.size+j]?=some cs[j]:=by simp only[xz,List.getElem?_map,List.getElem?_range (show i*e.size+j<ys.length*e.size by omega),dQ];rw[<-gn,hx];rfl
  rw[h2,ay hjc];rw[cd (by omega)]
 rw[e1];exact QE hr hf
theorem akx {u:Value}{ys:ax e.D}{fp:fi}(h:fZ hw w (.sl e) [u] ys fp): ∃news BE,Src P w e.size u ys.length news/\mq hw w e news ys BE/\(∀b∈BE.flatten,b∈fp)/\(fp.Nodup->BE.flatten.Nodup):=by
 obtain⟨v,hv,h⟩:=h;simp at hv;subst hv;rcases h with⟨⟨ad,rfl⟩,rfl,rfl⟩|⟨b,o0,cap,arr,T,fr,fps,rfl,hb,vx,hs,hc,hh,rfl,hl,ho⟩;refine⟨[],[],⟨λ_=>rfl,λw1 _=>?_⟩,mq.nil _ _ _,by simp,by simp⟩;cases ad with|none=>rfl|some ad=>exact run_firstCells_some (P:=P) w1 e.size 0 ad 0 0 [] (by simp) (λj x hj=>by simp at hj)
 have VX:=Ns hs hc hl ho;refine⟨_,fps,⟨λ_=>rfl,λw1 hw1=>?_⟩,VX,λc BF=>by simp[BF],λhn=>(dH.1 hn).2⟩;refine run_firstCells_some (P:=P) w1 e.size ys.length ⟨b,o0,none⟩ ys.length cap _ VX.1 (λj x hj=>?_);have hb1:w1.heap[b]?=some (.cells arr T fr):=by rw[hw1];exact hb
 rw[pj,rb hb1];rw[kK]at hj;split at hj;simpa using hj;cases hj
theorem aky (s:ax UInt8)(hw:Nat->Nat):∃news,Src P w (CT.size (.int .u8)) (.string ⟨s.toArray⟩) (dW s).length news/\mq hw w (.int .u8) news (dW s) (List.replicate (dW s).length []):=by
 have hl:(dW s).length=s.length:=by simp[dW]
 refine⟨(dW s).map (Value.int .u8),⟨λw1=>by simp[Builtin.lenOf,AD,hl],λw1 _=>?_⟩,⟨by simp[CT.size],by simp,λi y f hy hf=>?_⟩⟩;have:(ByteArray.mk s.toArray).extract 0 s.length=ByteArray.mk s.toArray:=by rw[extract_mk];simp
 simp[Builtin.firstCells,this,dW];have hi:i<(dW s).length:=(aD.1 hy).1;have hf':f=[]:=by rw[dU,aI hi]at hf;simpa using hf.symm
 subst hf';refine⟨?_,rfl⟩;apply dB;intro j;rw[kK];simp only[CT.size,mF];cases j with|zero=>simp[hy]|succ j=>simp
theorem XC {o:Oper}{s x:Operand}{t t':TypeId}(ho:o.op=.call {callee:=.builtin .append,args:=#[s,x],argTypes:=#[t,t']}){v:Value}{w':World}(h:(Builtin.append_ #[t,t'] o.type #[a.eval s,a.eval x]).run P w=.ok v w'):(execOp a.eval o).run P w=.ok (.value v) w':=by
 have e1:(#[s,x]:Array Operand).map a.eval=#[a.eval s,a.eval x]:=by simp
 simp only[execOp,ho,resolve,e1,Sem.run_bind,Sem.run_pure,Result.andThen_ok,invoke,builtin];show((Builtin.append_ #[t,t'] o.type #[a.eval s,a.eval x]).run P w).andThen _=_;rw[h];rfl
theorem Xm {E:Env}(hE:kQ P E.ty){o:Oper}{args:Array Operand}{ts:Array TypeId}(ho:o.op=.call {callee:=.builtin .append,args,argTypes:=ts})(h:qo C st a w){K:AS->aA R}(hk:Af E o ts.toList args.toList st K=some r):oK P C o a w K r:=by
 obtain⟨g,hg⟩:=h;unfold Af at hk;split at hk;rename_i t t' s x wx gN;have ea:args=#[s,x]:=by apply fY;simpa using gN
 have et:ts=#[t,t']:=by apply fY;simpa using wx
 subst ea;subst et;split at hk;rename_i tag e xs st1 V6;obtain⟨g1,hg1⟩:=hg.take s;rw[V6]at hg1;simp only[bU]at hg1;obtain⟨g2,Kf⟩:=hg1.take x
 have fin:∀(u:AV)(st2:AS),st1.take x=(u,st2)->eZ C g2 st2 a w [(a.eval s,.val false [.sl (.own tag) e xs]),(a.eval x,u)]->∀(ys:ax e.D)(news:jI)(BE:ax fi)(fq:fi),
  gV (dy C g2 st2 w) (a.eval x) u fq->(∀b∈fq,g2.fK b=some (.hand 1))->E.sl t=some e->∀dt,P.underlying t'=some dt->(∀k,dt≠ .int k)->
  Src P w e.size (a.eval x) ys.length news->mq g2.hw w e news ys BE->(∀b∈BE.flatten,b∈fq)->BE.flatten.Nodup->xs.length+ys.length<=1073741824->
  K (st2.sC o.dst e (xs++ys))=some r->oK P C o a w K r:=by
  intro u st2 _ Kf ys news BE fq _ hlq hT dt hdt asA La HJ sB HN Jy SU
  obtain⟨fp,hrs,asR,ahr⟩:=Kf.hands 0 _ _ rfl
  have ix:=(fN hrs).1
  obtain⟨te,hu,he⟩:=Ie hE hT
  have iA:∀b∈fp++BE.flatten,b<w.heap.size:=by intro b hb;rcases aB.1 hb with hb|hb;exact(Kf.ir b _ (ahr b hb)).1;exact(Kf.ir b _ (hlq b (sB b hb))).1
  have asN:(fp++BE.flatten).Nodup:=by refine aN.2 ⟨asR,HN,?_⟩;rintro b hb c hc rfl;have h1:=ahr b hb;rw[hlq b (sB b hc)]at h1;cases h1
  obtain⟨v',w',hw',kZ,fz,Fw,km,IT,K8,V2,MY⟩:=aai (ty:=o.type) hu he hdt asA ix La HJ iA asN Jy
  refine⟨v',w',_,.inl (XC ho fz),?_,SU⟩
  refine Kf.RM o.dst (hw':=hw') (fp:=kZ) ⟨km.os,km.tape,km.output,km.size,λb hb hh=>km.block b hb (λhm=>hh (by rw[ahr b hm];rfl))⟩ ?_ K8 Fw V2 ?_
  ·intro b y hb hh
   refine IT b (Kf.ir b y hb).1 (λhm=>hh ?_)
   rw[<-hb,ahr b hm];rfl
  ·intro b hb
   obtain⟨h1,h2⟩:=MY b hb
   refine⟨h1,?_⟩
   rcases h2 with h2|h2|h2
   ·exact .inl (by rw[ahr b h2];rfl)
   ·exact .inl (by rw[hlq b (sB b h2)];rfl)
   ·exact .inr h2
 split at hk;rename_i fl e' ys st2 Lb;split at hk;rename_i hee;subst hee;split at hk;rename_i hc;obtain⟨hT,hT',hgv⟩:=hc;unfold room at hk;split at hk;rename_i Jy;rw[Lb]at Kf;have aaU:eZ C g2 st2 a w [(a.eval s,.val false [.sl (.own tag) e' xs]),(a.eval x,.val false [.sl fl e' ys])]:=Kf;obtain⟨fq,Yf,hnq,hlq⟩:=aaU.hands 1 _ _ rfl;obtain⟨te',hu',_⟩:=Ie hE hT';have BG:st2.ep=st.ep:=by have h1:= @WW st s;have h2:= @WW st1 x;rw[V6]at h1;rw[Lb]at h2;exact h2.trans h1
 have hcx:=fN Yf;cases fl with
 |nest _ _ _ _ _ _=>simp[tu.nI]at hgv
 |part _ _ _ _=>simp[tu.nI]at hgv
 |gr _ _ _=>simp[tu.nI]at hgv
 |own tg=>obtain⟨news,BE,La,HJ,sB,HN⟩:=akx (P:=P) hcx.1;exact fin _ st2 Lb aaU ys news BE fq Yf hlq hT _ hu' (by simp) La HJ sB (HN hnq) Jy hk
 |arg _=>obtain⟨news,La,HJ⟩:=adz (P:=P) hcx.2 (by simpa[tu.nI]using hgv) g2.hw;exact fin _ st2 Lb aaU ys news _ fq Yf hlq hT _ hu' (by simp) La HJ (by simp) (by simp) Jy hk
 |loc ep pv=>
  simp only[tu.nI,ah,bD]at hgv;have asD:ep=(dy C g2 st2 w).ep:=by show ep=st2.ep;rw[BG];exact hgv.1
  obtain⟨news,La,HJ⟩:=adz (P:=P) (hcx.2.2.2.1 asD) hgv.2 g2.hw;exact fin _ st2 Lb aaU ys news _ fq Yf hlq hT _ hu' (by simp) La HJ (by simp) (by simp) Jy hk
 cases hk;cases hk;cases hk;rename_i s0 st2 Lb;split at hk;rename_i hee;subst hee;split at hk;rename_i hc;obtain⟨hT,hT'⟩:=hc;unfold room at hk;split at hk;rename_i Jy;rw[Lb]at Kf;have aaU:eZ C g2 st2 a w [(a.eval s,.val false [.sl (.own tag) (.int .u8) xs]),(a.eval x,.val false [.str s0])]:=Kf;obtain⟨fq,Yf,hnq,hlq⟩:=aaU.hands 1 _ _ rfl;have hcx:=fN Yf;obtain⟨news,La,HJ⟩:=aky (P:=P) (w:=w) s0 g2.hw;rw[<-hcx.1]at La;have hl:(dW s0).length=s0.length:=by simp[dW]
 exact fin _ st2 Lb aaU (dW s0) news _ fq Yf hlq hT _ (WS hE hT') (by simp) La HJ (by simp) (by simp) (by rw[hl];exact Jy) hk;cases hk;cases hk;cases hk;cases hk;cases hk;cases hk
end Go.Dn
