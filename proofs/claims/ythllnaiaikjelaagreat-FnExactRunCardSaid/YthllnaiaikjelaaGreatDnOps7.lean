import Derived.Test.YthllnaiaikjelaaGreatDnOps6
/- Part 7: append. -/
namespace Go.Dn
open Go.RowKit
variable {P:Program} {C:Ctx} {st:AS} {a:Act} {w:World} {R:Type} {r:R}
variable {e:CT} {hw:Nat->Nat}
structure Src (P:Program) (w:World) (size:Nat) (u:Value) (m:Nat) (news:List Value):Prop where
 len:∀w1:World,(Builtin.lenOf u).run P w1=.ok m w1
 first:∀w1:World,w1.heap=w.heap->(Builtin.firstCells size m u).run P w1=.ok news.toArray w1
theorem aeU {t t' ty te:TypeId}(ht:P.underlying t=some (.slice te))(he:Uw P te e){dt:TypeDesc}(ht':P.underlying t'=some dt)(hdt:∀k,dt≠ .int k){v u:Value}{xs ys:ar e.D}{fp:ei}{news:iW}{EN:ar ei}(fB:eU hw w (.sl e) [v] xs fp)(Qa:Src P w e.size u ys.length news)(Mi:mn hw w e news ys EN)(iJ:∀b∈fp++EN.flatten,b<w.heap.size)(J0:(fp++EN.flatten).Nodup)(N8:xs.length+ys.length<=1073741824): ∃v' w' hw' ji,(Builtin.append_ #[t,t'] ty #[v,u]).run P w=.ok v' w'/\eU hw' w' (.sl e) [v'] (xs++ys) ji/\Fr (λb=>b∈fp) w w'/\(∀b,b<w.heap.size->b∉fp->hw' b=hw b)/\ (∀b o x,o<hw b->w.cell? ⟨b,o,none⟩=some x->o<hw' b/\w'.cell? ⟨b,o,none⟩=some x)/\ji.Nodup/\∀b∈ji,b<w'.heap.size/\(b∈fp\/b∈EN.flatten\/w.heap.size<=b):=by
 obtain⟨⟨inf,z,Ja,xx,hby,hz,hzc⟩,_⟩:=he;have hzs:z.cells.size=e.size:=by rw[<-sO e,<-hzc];simp
 have ajc:=e.size_pos;have hnz:(match dt with| .int _=>true|_=>false)=false:=by cases dt<;>simp;exact absurd rfl (hdt _)
 have Vp:=Qa.first w rfl
 have aoN:=Qa.first w.drew rfl
 have hlen:=Qa.len;have PA:=Mi.1;have h63:¬((xs.length+ys.length:Nat):Int)>IntKind.i64.max:=by
  have:IntKind.i64.max=9223372036854775807:=by decide
  omega
 have grow:∀(aaG:iW)(We:Nat)(fps:ar ei),(∀w1:World,w1.heap=w.heap->(Builtin.firstCells e.size xs.length v).run P w1=.ok aaG.toArray w1)->(∃base,v=.slice base xs.length We)->We<xs.length+ys.length->
  mn hw w e aaG xs fps->(fps.flatten++EN.flatten).Nodup->(∀b∈fps.flatten,b∈fp)->
  ∃v' w' hw' ji,(Builtin.append_ #[t,t'] ty #[v,u]).run P w=.ok v' w'/\eU hw' w' (.sl e) [v'] (xs++ys) ji/\Fr (λb=>b∈fp) w w'/\(∀b,b<w.heap.size->b∉fp->hw' b=hw b)/\
  (∀b o x,o<hw b->w.cell? ⟨b,o,none⟩=some x->o<hw' b/\w'.cell? ⟨b,o,none⟩=some x)/\ji.Nodup/\∀b∈ji,b<w'.heap.size/\(b∈fp\/b∈EN.flatten\/w.heap.size<=b):=by
  intro aaG We fps hold arv NS aab aAg ti
  obtain⟨base,rfl⟩:=arv
  have arN:=hold w.drew rfl
  have iB:Builtin.nextslicecap (xs.length+ys.length) We*inf.bytes<=281474976710656:=by refine growslice_fits NS ?_;have:(xs.length+ys.length)*inf.bytes<=1073741824*65536:=Nat.mul_le_mul N8 hby;omega
  have ez:(Builtin.append_ #[t,t'] ty #[.slice base xs.length We,u]).run P w=
   .ok (.slice (some ⟨w.heap.size,0,none⟩) (xs.length+ys.length) (grownCap w (xs.length+ys.length) We te))
    (w.drew.alloc (.cells (aaG.toArray++news.toArray++Builtin.zeroCells z.cells (grownCap w (xs.length+ys.length) We te-(xs.length+ys.length))) te)):=by
   have h1:¬(xs.length+ys.length<=We):=by omega
   have h2:¬(281474976710656<Builtin.nextslicecap (xs.length+ys.length) We*inf.bytes):=by omega
   simp only[Builtin.append_]
   simp only[underlying,Sem.run_bind,run_program,ht,ht',Result.andThen_ok,Sem.run_pure,sizeOf,typeInfo,Ja,xx,List.getElem?_toArray,cL,fg,hlen,aW,bg,cE,
    h1,h63,false_and,cd,zeroValue,newRow]
   rw[aK (by simpa using h2)]
   simp only[Sem.run_bind,run_choose,Question.forced,bg,cE,Result.andThen_ok,run_program,Ja,run_askRoom,Sem.run_pure]
   have e1:=arN
   have e2:=aoN
   simp only[World.drew]at e1 e2
   simp only[e1,e2,Result.andThen_ok,hz,Sem.run_pure,run_newObj]
   rfl
  have Fp:=grownCap_ge w (xs.length+ys.length) We te
  generalize grownCap w (xs.length+ys.length) We te=nc at ez Fp
  have aAr:(Builtin.zeroCells z.cells (nc-(xs.length+ys.length))).size=(nc-(xs.length+ys.length))*e.size:=by rw[size_zeroCells,hzs]
  let jV:Array Value:=aaG.toArray++news.toArray++Builtin.zeroCells z.cells (nc-(xs.length+ys.length))
  have hlo:=aab.1
  have azU:jV.size=nc*e.size:=by show(aaG.toArray++news.toArray++Builtin.zeroCells z.cells (nc-(xs.length+ys.length))).size=_;rw[Array.size_append,Array.size_append,aAr];simp only[List.size_toArray,hlo,PA,<-cx];congr 1;omega
  let hw':Nat->Nat:=λb=>if b=w.heap.size then(xs++ys).length*e.size else hw b
  have acr:(w.drew.alloc (.cells jV te)).heap[w.heap.size]?=some (.cells jV te (0,0)):=heap_alloc_new w.drew _
  have apT:∀b,b<w.heap.size->(w.drew.alloc (.cells jV te)).heap[b]?=w.heap[b]?:=λb hb=>heap_alloc_old w.drew _ b hb
  have xC:jV.toList.take ((xs++ys).length*e.size)=aaG++news:=by
   show(aaG.toArray++news.toArray++Builtin.zeroCells z.cells (nc-(xs.length+ys.length))).toList.take _=_;rw[Array.toList_append,Array.toList_append];have:(aaG++news).length=(xs++ys).length*e.size:=by simp only[ay,hlo,PA,cx]
   rw[<-this];exact List.take_left
  have aqw:∀b∈(fps++EN).flatten,b<w.heap.size:=by intro b hb;rw[eE,aA]at hb;exact iJ b (by rcases hb with hb|hb;exact br _ (ti b hb);exact bh _ hb)
  refine⟨_,_,hw',w.heap.size::(fps++EN).flatten,ez,?_,?_,?_,?_,?_,?_⟩
  ·have:=ags (hw:=hw') (o0:=0) (xs:=xs++ys) (cap:=nc) acr (by intro j _;simp) (by rw[cv];exact azU) (by simp;omega) (by simp[hw']) (fps:=fps++EN) (by rw[fJ,xC];refine(aab.append Mi).mono (λb hb=>?_);have ig:=aqw b hb;exact⟨apT b ig,by simp[hw',iO ig]⟩)
   rw[ay]at this
   exact this
  ·exact(Fr.drew _ w).trans (Fr.alloc _ _ _) (λb _ hh=>hh)
  ·intro b hb _;simp[hw',iO hb]
  ·intro b o x ho hx
   have hb:b<w.heap.size:=World.block_lt_of_cell? w _ hx
   exact⟨by simp[hw',iO hb];exact ho,by rw[World.cell?_of_block (a:=⟨b,o,none⟩) (apT b hb)];exact hx⟩
  ·refine di.2 ⟨λhm=>pP _ (aqw _ hm),?_⟩
   rw[eE];exact aAg
  ·intro b hb
   rcases cq.1 hb with rfl|hb
   ·exact⟨by simp,.inr (.inr (ba _))⟩
   ·have ig:=aqw b hb
    refine⟨by simp;omega,?_⟩
    rw[eE,aA]at hb
    rcases hb with hb|hb
    ·exact .inl (ti b hb)
    ·exact .inr (.inl hb)
 obtain⟨vv,hvv,ho⟩:=id fB;simp at hvv;subst hvv;rcases ho with⟨⟨ad,rfl⟩,rfl,rfl⟩|⟨b,o0,cap,arr,T,fr,fps,rfl,hb,uI,hs,hc,hh,rfl,hl,ho⟩;have az4:∀w1:World,(Builtin.firstCells e.size ([]:ar e.D).length (.slice ad 0 0)).run P w1=.ok ([]:iW).toArray w1:=by intro w1;cases ad with|none=>simp[Builtin.firstCells]|some ad=>exact run_firstCells_some (P:=P) w1 e.size 0 ad 0 0 [] (by simp) (λj x hj=>by simp at hj)
 by_cases hm:ys.length=0;have hy:ys=[]:=cQ hm;subst hy;refine⟨.slice ad 0 0,w,hw,[],?_,⟨_,rfl,.inl ⟨⟨_,rfl⟩,rfl,rfl⟩⟩,Fr.refl _ _,λ_ _ _=>rfl,λ_ _ _ ho hx=>⟨ho,hx⟩,by simp,by simp⟩;simp only[Builtin.append_];simp only[underlying,Sem.run_bind,run_program,ht,ht',Result.andThen_ok,Sem.run_pure,sizeOf,typeInfo,Ja,xx,List.getElem?_toArray,cL,fg,hlen,bg,cE,bB,cd];simp only[eo]at Vp;have arK:news=[]:=cQ (by rw[PA];simp);subst arK;simp[Vp];cases ad<;>simp[storeCells];refine grow [] 0 [] (λw1 _=>az4 w1) ⟨ad,by simp⟩ (by simp;omega) (mn.nil _ _ _) (by simpa using J0) (by simp);have aab:=Sb hs hc hl ho;have hln:o0+xs.length*e.size<=arr.size:=by rw[hs];exact Nat.add_le_add_left (cD _ hc) _
 have hol:((arr.toList.drop o0).take (xs.length*e.size)).length=xs.length*e.size:=aab.1;by_cases amq:xs.length+ys.length<=cap;have iB:o0+xs.length*e.size+news.length<=arr.size:=by rw[PA,hs,fZ,<-cx];exact Nat.add_le_add_left (cD _ amq) _
 have nm:=Ci P b (o0+xs.length*e.size) T fr news 0 w arr hb uI (by simpa using iB) Mi.py;simp only[dZ]at nm;have ez:(Builtin.append_ #[t,t'] ty #[.slice (some ⟨b,o0,none⟩) xs.length cap,u]).run P w=.ok (.slice (some ⟨b,o0,none⟩) (xs.length+ys.length) cap) (zB w b (eY arr (o0+xs.length*e.size) news) T fr):=by simp only[Builtin.append_];simp only[underlying,Sem.run_bind,run_program,ht,ht',Result.andThen_ok,Sem.run_pure,sizeOf,typeInfo,Ja,xx,List.getElem?_toArray,cL,fg,hlen,bg,cE,bB,cd,amq,Vp,pO,nm]
 have LU:=oo hb;rw[List.cons_append]at J0;have xk:b∉fps.flatten++EN.flatten:=(di.1 J0).1;let hw':Nat->Nat:=λc=>if c=b then o0+(xs++ys).length*e.size else hw c
 refine⟨_,_,hw',b::(fps++EN).flatten,ez,?_,?_,?_,?_,?_,?_⟩;have xC:((eY arr (o0+xs.length*e.size) news).toList.drop o0).take ((xs++ys).length*e.size)=(arr.toList.drop o0).take (xs.length*e.size)++news:=by
  have h2:((arr.toList.drop o0).take (xs.length*e.size)++news).length=(xs++ys).length*e.size:=by simp only[ay,hol,PA,cx]
  have h3:(xs++ys).length*e.size=xs.length*e.size+news.length:=by rw[ay,cx,PA]
  apply cW;intro j;rw[ky];by_cases hj:j<(xs++ys).length*e.size;rw[aM hj,Er iB];by_cases h1:j<xs.length*e.size;rw[ny,bI (by omega),ky,aM h1];rw[zip,bw (by omega),hol];congr 1;omega;rw[aK hj,bL (by omega)]
 have:=ags (hw:=hw') (w:=zB w b (eY arr (o0+xs.length*e.size) news) T fr) (xs:=xs++ys) (cap:=cap) (fps:=fps++EN) (C6 LU) (λj hj=>uI j (by rwa[js]at hj)) (by rw[js];exact hs) (by simp;omega) (by simp[hw']) (by
  rw[xC];refine(aab.append Mi).mono (λc IX=>?_);have JG:c≠b:=by rintro rfl;exact xk (by rwa[eE]at IX)
  exact⟨oW JG,by simp[hw',JG]⟩)
 rw[ay]at this;exact this;exact⟨rfl,rfl,rfl,by rw[nG];exact ba _,λc _ IX=>oW (λe=>IX (by simp[e]))⟩;intro c _ IX;have JG:c≠b:=λe=>IX (by simp[e]);simp[hw',JG];intro c o x TH hx;by_cases hcb:c=b;subst hcb;rw[hh]at TH;refine⟨?_,?_⟩;simp only[hw',cd,ay,cx];omega;rw[oX (C6 LU),<-cp,Er iB,ny,cp,<-oX hb];exact hx;exact⟨by simp[hw',hcb];exact TH,by rw[World.cell?_of_block (a:=⟨c,o,none⟩) (oW hcb)];exact hx⟩;refine di.2 ⟨by rw[eE];exact xk,?_⟩;rw[eE];exact(di.1 J0).2;intro c IX;rw[nG];rcases cq.1 IX with rfl|IX;exact⟨LU,.inl (by simp)⟩;rw[eE,aA]at IX;rcases IX with IX|IX;exact⟨iJ c (by simp[IX]),.inl (by simp[IX])⟩;exact⟨iJ c (by simp[IX]),.inr (.inl IX)⟩;refine grow ((arr.toList.drop o0).take (xs.length*e.size)) cap fps (λw1 hw1=>?_) ⟨_,rfl⟩ (by omega) aab ?_ (λc IX=>by simp[IX]);refine run_firstCells_some (P:=P) w1 e.size xs.length ⟨b,o0,none⟩ xs.length cap _ hol (λj x hj=>?_);have hb1:w1.heap[b]?=some (.cells arr T fr):=by rw[hw1];exact hb
 rw[pO,oX hb1];rw[ky]at hj;split at hj;simpa using hj;cases hj;rw[List.cons_append]at J0;exact(di.1 J0).2
def zV (w:World)(b o n:Nat):iW:=(List.range n).map λj=>(w.cell? ⟨b,o+j,none⟩).getD undef
theorem aip {S:Nat->Nat->Prop}{u:Value}{ys:ar e.D}(h:km w S (.sl e) [u] ys)(hf:e.flat=true)(hw:Nat->Nat): ∃news,Src P w e.size u ys.length news/\mn hw w e news ys (List.replicate ys.length []):=by
 obtain⟨v,hv,h⟩:=h;simp at hv;subst hv;rcases h with⟨⟨ad,rfl⟩,rfl⟩|⟨b,o,cap,rfl,hc,h⟩;cases ad with|none=>exact⟨[],⟨λ_=>rfl,λ_ _=>rfl⟩,mn.nil _ _ _⟩|some ad=>exact⟨[],⟨λ_=>rfl,λw1 _=>run_firstCells_some (P:=P) w1 e.size 0 ad 0 0 [] (by simp) (λj x hj=>by simp at hj)⟩,mn.nil _ _ _⟩
 have Fc:∀j,j<ys.length*e.size->∃x,w.cell? ⟨b,o+j,none⟩=some x:=by
  intro j hj;have hi:j/e.size<ys.length:=by rw[Nat.div_lt_iff_lt_mul e.size_pos];exact hj
  obtain⟨cs,RJ,hr⟩:=h (j/e.size) _ (al hi);have hm:j%e.size<cs.length:=by rw[km.length hr];exact Nat.mod_lt _ e.size_pos
  have:=(RJ (j%e.size) _ (al hm)).2;rw[fZ,Nat.mul_comm,Nat.div_add_mod]at this;exact⟨_,this⟩
 have iP:∀j x,(zV w b o (ys.length*e.size))[j]?=some x->w.cell? ⟨b,o+j,none⟩=some x:=by intro j x hx;simp only[zV,List.getElem?_map]at hx;rcases bS j (ys.length*e.size)with hj|hj;rw[List.getElem?_range hj]at hx;obtain⟨y,hy⟩:=Fc j hj;simp[hy]at hx;rw[hy,hx];rw[bL (by simpa using hj)]at hx;cases hx
 have hlen:(zV w b o (ys.length*e.size)).length=ys.length*e.size:=by simp[zV]
 refine⟨zV w b o (ys.length*e.size),⟨λ_=>rfl,λw1 hw1=>?_⟩,⟨hlen,by simp,λi y f hy hf'=>?_⟩⟩;refine run_firstCells_some (P:=P) w1 e.size ys.length ⟨b,o,none⟩ ys.length cap _ hlen (λj x hj=>?_);rw[pO];have:=iP j x hj;simpa[World.cell?,hw1]using this;have hi:i<ys.length:=(aJ.1 hy).1;have JF:f=[]:=by rw[dE,aM hi]at hf';simpa using hf'.symm
 subst JF;obtain⟨cs,RJ,hr⟩:=h i y hy;have hm:(i+1)*e.size<=ys.length*e.size:=cD _ hi;rw[cx,eH]at hm;have e1:((zV w b o (ys.length*e.size)).drop (i*e.size)).take e.size=cs:=by
  apply cW;intro j;rw[ky];have hcl:=km.length hr;split;rename_i hj;have hjc:j<cs.length:=by omega
  have hx:=(RJ j _ (al hjc)).2;have h2:(zV w b o (ys.length*e.size))[i*e.size+j]?=some cs[j]:=by simp only[zV,List.getElem?_map,List.getElem?_range (show i*e.size+j<ys.length*e.size by omega),dB];rw[<-fZ,hx];rfl
  rw[h2,al hjc];rw[bL (by omega)]
 rw[e1];exact Vc hr hf
theorem apn {u:Value}{ys:ar e.D}{fp:ei}(h:eU hw w (.sl e) [u] ys fp): ∃news EN,Src P w e.size u ys.length news/\mn hw w e news ys EN/\(∀b∈EN.flatten,b∈fp)/\(fp.Nodup->EN.flatten.Nodup):=by
 obtain⟨v,hv,h⟩:=h;simp at hv;subst hv;rcases h with⟨⟨ad,rfl⟩,rfl,rfl⟩|⟨b,o0,cap,arr,T,fr,fps,rfl,hb,uI,hs,hc,hh,rfl,hl,ho⟩;refine⟨[],[],⟨λ_=>rfl,λw1 _=>?_⟩,mn.nil _ _ _,by simp,by simp⟩;cases ad with|none=>rfl|some ad=>exact run_firstCells_some (P:=P) w1 e.size 0 ad 0 0 [] (by simp) (λj x hj=>by simp at hj)
 have aab:=Sb hs hc hl ho;refine⟨_,fps,⟨λ_=>rfl,λw1 hw1=>?_⟩,aab,λc IX=>by simp[IX],λhn=>(di.1 hn).2⟩;refine run_firstCells_some (P:=P) w1 e.size ys.length ⟨b,o0,none⟩ ys.length cap _ aab.1 (λj x hj=>?_);have hb1:w1.heap[b]?=some (.cells arr T fr):=by rw[hw1];exact hb
 rw[pO,oX hb1];rw[ky]at hj;split at hj;simpa using hj;cases hj
theorem apo (s:ar UInt8)(hw:Nat->Nat):∃news,Src P w (CT.size (.int .u8)) (.string ⟨s.toArray⟩) (dc s).length news/\mn hw w (.int .u8) news (dc s) (List.replicate (dc s).length []):=by
 have hl:(dc s).length=s.length:=by simp[dc]
 refine⟨(dc s).map (Value.int .u8),⟨λw1=>by simp[Builtin.lenOf,DG,hl],λw1 _=>?_⟩,⟨by simp[CT.size],by simp,λi y f hy hf=>?_⟩⟩;have:(ByteArray.mk s.toArray).extract 0 s.length=ByteArray.mk s.toArray:=by rw[extract_mk];simp
 simp[Builtin.firstCells,this,dc];have hi:i<(dc s).length:=(aJ.1 hy).1;have hf':f=[]:=by rw[dE,aM hi]at hf;simpa using hf.symm
 subst hf';refine⟨?_,rfl⟩;apply cW;intro j;rw[ky];simp only[CT.size,pQ];cases j with|zero=>simp[hy]|succ j=>simp
theorem abX {o:Oper}{s x:Operand}{t t':TypeId}(ho:o.op=.call {callee:=.builtin .append,args:=#[s,x],argTypes:=#[t,t']}){v:Value}{w':World}(h:(Builtin.append_ #[t,t'] o.type #[a.eval s,a.eval x]).run P w=.ok v w'):(execOp a.eval o).run P w=.ok (.value v) w':=by
 have e1:(#[s,x]:Array Operand).map a.eval=#[a.eval s,a.eval x]:=by simp
 simp only[execOp,ho,resolve,e1,Sem.run_bind,Sem.run_pure,Result.andThen_ok,invoke,builtin];show((Builtin.append_ #[t,t'] o.type #[a.eval s,a.eval x]).run P w).andThen _=_;rw[h];rfl
theorem abw {E:Env}(hE:kG P E.ty){o:Oper}{args:Array Operand}{ts:Array TypeId}(ho:o.op=.call {callee:=.builtin .append,args,argTypes:=ts})(h:pL C st a w){K:AS->au R}(hk:C7 E o ts.toList args.toList st K=some r):pa P C o a w K r:=by
 obtain⟨g,hg⟩:=h;unfold C7 at hk;split at hk;rename_i t t' s x uJ fK;have ea:args=#[s,x]:=by apply eQ;simpa using fK
 have et:ts=#[t,t']:=by apply eQ;simpa using uJ
 subst ea;subst et;split at hk;rename_i tag e xs st1 aai;obtain⟨g1,hg1⟩:=hg.take s;rw[aai]at hg1;simp only[bH]at hg1;obtain⟨g2,O1⟩:=hg1.take x
 have fin:∀(u:AV)(st2:AS),st1.take x=(u,st2)->dN C g2 st2 a w [(a.eval s,.val false [.sl (.own tag) e xs]),(a.eval x,u)]->∀(ys:ar e.D)(news:iW)(EN:ar ei)(fq:ei),
  gj (cP C g2 st2 w) (a.eval x) u fq->(∀b∈fq,g2.eC b=some (.hand 1))->E.sl t=some e->∀dt,P.underlying t'=some dt->(∀k,dt≠ .int k)->
  Src P w e.size (a.eval x) ys.length news->mn g2.hw w e news ys EN->(∀b∈EN.flatten,b∈fq)->EN.flatten.Nodup->xs.length+ys.length<=1073741824->
  K (st2.tj o.dst e (xs++ys))=some r->pa P C o a w K r:=by
  intro u st2 _ O1 ys news EN fq _ hlq hT dt hdt azZ Qa Mi ti J0 N8 hkk
  obtain⟨fp,hrs,aAi,amf⟩:=O1.hands 0 _ _ rfl
  have fB:=(eI hrs).1
  obtain⟨te,hu,he⟩:=MN hE hT
  have iJ:∀b∈fp++EN.flatten,b<w.heap.size:=by intro b hb;rcases aA.1 hb with hb|hb;exact(O1.fW b _ (amf b hb)).1;exact(O1.fW b _ (hlq b (ti b hb))).1
  have aAe:(fp++EN.flatten).Nodup:=by refine aG.2 ⟨aAi,J0,?_⟩;rintro b hb c hc rfl;have h1:=amf b hb;rw[hlq b (ti b hc)]at h1;cases h1
  obtain⟨v',w',hw',ji,ez,Jb,iA,GL,P6,aae,RK⟩:=aeU (ty:=o.type) hu he hdt azZ fB Qa Mi iJ aAe N8
  refine⟨v',w',_,.inl (abX ho ez),?_,hkk⟩
  refine O1.V8 o.dst (hw':=hw') (fp:=ji) ⟨iA.os,iA.tape,iA.output,iA.size,λb hb hh=>iA.block b hb (λhm=>hh (by rw[amf b hm];rfl))⟩ ?_ P6 Jb aae ?_
  ·intro b y hb hh
   refine GL b (O1.fW b y hb).1 (λhm=>hh ?_)
   rw[<-hb,amf b hm];rfl
  ·intro b hb
   obtain⟨h1,h2⟩:=RK b hb
   refine⟨h1,?_⟩
   rcases h2 with h2|h2|h2
   ·exact .inl (by rw[amf b h2];rfl)
   ·exact .inl (by rw[hlq b (ti b h2)];rfl)
   ·exact .inr h2
 split at hk;rename_i fl e' ys st2 Qb;split at hk;rename_i hee;subst hee;split at hk;rename_i hc;obtain⟨hT,hT',hgv⟩:=hc;unfold room at hk;split at hk;rename_i N8;rw[Qb]at O1;have afC:dN C g2 st2 a w [(a.eval s,.val false [.sl (.own tag) e' xs]),(a.eval x,.val false [.sl fl e' ys])]:=O1;obtain⟨fq,hrx,hnq,hlq⟩:=afC.hands 1 _ _ rfl;obtain⟨te',Yp,_⟩:=MN hE hT';have Cw:st2.ep=st.ep:=by have h1:= @abj st s;have h2:= @abj st1 x;rw[aai]at h1;rw[Qb]at h2;exact h2.trans h1
 have hcx:=eI hrx;cases fl with
 |nest _ _ _ _ _ _=>simp[ux.zH]at hgv
 |part _ _ _ _=>simp[ux.zH]at hgv
 |fL _ _ _=>simp[ux.zH]at hgv
 |own tg=>obtain⟨news,EN,Qa,Mi,ti,J0⟩:=apn (P:=P) hcx.1;exact fin _ st2 Qb afC ys news EN fq hrx hlq hT _ Yp (by simp) Qa Mi ti (J0 hnq) N8 hk
 |arg _=>obtain⟨news,Qa,Mi⟩:=aip (P:=P) hcx.2 (by simpa[ux.zH]using hgv) g2.hw;exact fin _ st2 Qb afC ys news _ fq hrx hlq hT _ Yp (by simp) Qa Mi (by simp) (by simp) N8 hk
 |loc ep pv=>
  simp only[ux.zH,ah,bn]at hgv;have az2:ep=(cP C g2 st2 w).ep:=by show ep=st2.ep;rw[Cw];exact hgv.1
  obtain⟨news,Qa,Mi⟩:=aip (P:=P) (hcx.2.2.2.1 az2) hgv.2 g2.hw;exact fin _ st2 Qb afC ys news _ fq hrx hlq hT _ Yp (by simp) Qa Mi (by simp) (by simp) N8 hk
 cases hk;cases hk;cases hk;rename_i s0 st2 Qb;split at hk;rename_i hee;subst hee;split at hk;rename_i hc;obtain⟨hT,hT'⟩:=hc;unfold room at hk;split at hk;rename_i N8;rw[Qb]at O1;have afC:dN C g2 st2 a w [(a.eval s,.val false [.sl (.own tag) (.int .u8) xs]),(a.eval x,.val false [.str s0])]:=O1;obtain⟨fq,hrx,hnq,hlq⟩:=afC.hands 1 _ _ rfl;have hcx:=eI hrx;obtain⟨news,Qa,Mi⟩:=apo (P:=P) (w:=w) s0 g2.hw;rw[<-hcx.1]at Qa;have hl:(dc s0).length=s0.length:=by simp[dc]
 exact fin _ st2 Qb afC (dc s0) news _ fq hrx hlq hT _ (abe hE hT') (by simp) Qa Mi (by simp) (by simp) (by rw[hl];exact N8) hk;cases hk;cases hk;cases hk;cases hk;cases hk;cases hk
end Go.Dn
