import Derived.Test.YtehfjiddofkdnaaGreatDnOps6
/- Part 7: append. -/
open Bool renaming false->G
open Option renaming none->W,some->I
namespace Go.Dn
open Go.RowKit
variable {P:Program} {C:Ctx} {st:AS} {a:Act} {w:World} {R:Type} {r:R}
variable {e:CT} {hw:Nat->Nat}
structure Src (P:Program) (w:World) (size:Nat) (u:Value) (m:Nat) (news:List Value):Prop where
 len:∀w1:World,(Builtin.lenOf u).run P w1=.ok m w1
 first:∀w1:World,w1.heap=w.heap->(Builtin.firstCells size m u).run P w1=.ok news.toArray w1
theorem ag8 {t t' ty K}(ht:P.underlying t=I (.slice K))(he:VK P K e){dt}(ht':P.underlying t'=I dt)(hdt:∀k,dt≠ .int k){v u}{xs h:Z e.D}{H d l}(ahU:gX hw w (.sl e) [v] xs H)(aD7:Src P w e.size u h.length d)(L:oq hw w e d h l)(YI:∀b∈H++l.flatten,b<w.heap.size)(s:(H++l.flatten).Nodup)(auF:xs.length+h.length<=1073741824): ∃v' F f q,(Builtin.append_ #[t,t'] ty #[v,u]).run P w=.ok v' F/\gX f F (.sl e) [v'] (xs++h) q/\Fr (λb=>b∈H) w F/\(∀b,b<w.heap.size->b∉H->f b=hw b)/\ (∀b o x,o<hw b->w.cell? ⟨b,o,W⟩=I x->o<f b/\F.cell? ⟨b,o,W⟩=I x)/\q.Nodup/\∀b∈q,b<F.heap.size/\(b∈H\/b∈l.flatten\/w.heap.size<=b):=by
 obtain⟨⟨inf,z,N,hsz,hby,hz,hzc⟩,_⟩:=he;have hzs:z.cells.size=e.size:=by rw[<-vZ e,<-hzc];simp
 have aBB:=e.size_pos;have hnz:(match dt with| .int _=>true|_=>G)=false:=by cases dt<;>simp;exact absurd rfl (hdt _)
 have X:=aD7.first w rfl
 have aCz:=aD7.first w.drew rfl
 have E:=aD7.len;have y:=L.1;have h63:¬((xs.length+h.length:Nat):Int)>IntKind.i64.max:=by have:IntKind.i64.max=9223372036854775807:=eR;omega
 have grow:∀(p:oz)(n:Nat)(fps:Z gw),(∀A:World,A.heap=w.heap->(Builtin.firstCells e.size xs.length v).run P A=.ok p.toArray A)->(∃base,v=.slice base xs.length n)->n<xs.length+h.length->
  oq hw w e p xs fps->(fps.flatten++l.flatten).Nodup->(∀b∈fps.flatten,b∈H)->
  ∃v' F f q,(Builtin.append_ #[t,t'] ty #[v,u]).run P w=.ok v' F/\gX f F (.sl e) [v'] (xs++h) q/\Fr (λb=>b∈H) w F/\(∀b,b<w.heap.size->b∉H->f b=hw b)/\
  (∀b o x,o<hw b->w.cell? ⟨b,o,W⟩=I x->o<f b/\F.cell? ⟨b,o,W⟩=I x)/\q.Nodup/\∀b∈q,b<F.heap.size/\(b∈H\/b∈l.flatten\/w.heap.size<=b):=by
  intro p n fps hold aB1 aAW r aBd aEc
  obtain⟨base,rfl⟩:=aB1
  have auy:=hold w.drew rfl
  have M:Builtin.nextslicecap (xs.length+h.length) n*inf.bytes<=281474976710656:=by refine growslice_fits aAW ?_;have:(xs.length+h.length)*inf.bytes<=1073741824*65536:=Nat.mul_le_mul auF hby;omega
  have MX:(Builtin.append_ #[t,t'] ty #[.slice base xs.length n,u]).run P w=
   .ok (.slice (I ⟨w.heap.size,0,W⟩) (xs.length+h.length) (grownCap w (xs.length+h.length) n K))
    (w.drew.alloc (.cells (p.toArray++d.toArray++Builtin.zeroCells z.cells (grownCap w (xs.length+h.length) n K-(xs.length+h.length))) K)):=by
   have h1:¬(xs.length+h.length<=n):=J
   have h2:¬(281474976710656<Builtin.nextslicecap (xs.length+h.length) n*inf.bytes):=J
   simp only[Builtin.append_]
   simp only[underlying,Sem.run_bind,run_program,ht,ht',Result.andThen_ok,Sem.run_pure,sizeOf,typeInfo,N,hsz,List.getElem?_toArray,dy,gI,E,aW,bD,cY,
    h1,h63,false_and,dm,zeroValue,newRow]
   rw[aK (by simpa using h2)]
   simp only[Sem.run_bind,run_choose,Question.forced,bD,cY,Result.andThen_ok,run_program,N,run_askRoom,Sem.run_pure]
   have e1:=auy
   have e2:=aCz
   simp only[World.drew]at e1 e2
   simp only[e1,e2,Result.andThen_ok,hz,Sem.run_pure,run_newObj]
   rfl
  have hge:=grownCap_ge w (xs.length+h.length) n K
  generalize grownCap w (xs.length+h.length) n K=nc at MX hge
  have aBk:(Builtin.zeroCells z.cells (nc-(xs.length+h.length))).size=(nc-(xs.length+h.length))*e.size:=by rw[size_zeroCells,hzs]
  let B:Array Value:=p.toArray++d.toArray++Builtin.zeroCells z.cells (nc-(xs.length+h.length))
  have hlo:=r.1
  have aAV:B.size=nc*e.size:=by show(p.toArray++d.toArray++Builtin.zeroCells z.cells (nc-(xs.length+h.length))).size=_;rw[Array.size_append,Array.size_append,aBk];simp only[List.size_toArray,hlo,y,<-dA];congr 1;omega
  let f:Nat->Nat:=λb=>if b=w.heap.size then(xs++h).length*e.size else hw b
  have aBe:(w.drew.alloc (.cells B K)).heap[w.heap.size]?=I (.cells B K (0,0)):=heap_alloc_new w.drew _
  have aDt:∀b,b<w.heap.size->(w.drew.alloc (.cells B K)).heap[b]?=w.heap[b]?:=λb i=>heap_alloc_old w.drew _ b i
  have htk:B.toList.take ((xs++h).length*e.size)=p++d:=by
   show(p.toArray++d.toArray++Builtin.zeroCells z.cells (nc-(xs.length+h.length))).toList.take _=_;rw[Array.toList_append,Array.toList_append];have:(p++d).length=(xs++h).length*e.size:=by simp only[aq,hlo,y,dA]
   rw[<-this];exact List.take_left
  have Y:∀b∈(fps++l).flatten,b<w.heap.size:=by intro b i;rw[eX,aB]at i;exact YI b (by rcases i with i|i;exact bh _ (aEc b i);exact bC _ i)
  refine⟨_,_,f,w.heap.size::(fps++l).flatten,MX,?_,?_,?_,?_,?_,?_⟩
  ·have:=aiR (hw:=f) (o0:=0) (xs:=xs++h) (cap:=nc) aBe (by intro j _;simp) (by rw[cR];exact aAV) (by simp;omega) (by simp[f]) (fps:=fps++l) (by rw[ik,htk];refine(r.append L).mono (λb i=>?_);have S:=Y b i;exact⟨aDt b S,by simp[f,kx S]⟩)
   rw[aq]at this
   exact this
  ·exact(Fr.drew _ w).trans (Fr.alloc _ _ _) (λb _ hh=>hh)
  ·intro b i _;simp[f,kx i]
  ·intro b o x ho hx
   have i:b<w.heap.size:=World.block_lt_of_cell? w _ hx
   exact⟨by simp[f,kx i];exact ho,by rw[World.cell?_of_block (a:=⟨b,o,W⟩) (aDt b i)];exact hx⟩
  ·refine eo.2 ⟨λhm=>sy _ (Y _ hm),?_⟩
   rw[eX];exact aBd
  ·intro b i
   rcases bW.1 i with rfl|i
   ·exact⟨aD,.inr (.inr (bq _))⟩
   ·have S:=Y b i
    refine⟨by simp;omega,?_⟩
    rw[eX,aB]at i
    rcases i with i|i
    ·exact .inl (aEc b i)
    ·exact .inr (.inl i)
 obtain⟨vv,hvv,ho⟩:=id ahU;simp at hvv;subst hvv;rcases ho with⟨⟨R,rfl⟩,rfl,rfl⟩|⟨b,o0,cap,m,T,fr,fps,rfl,i,MY,hs,hc,hh,rfl,hl,ho⟩;have aAZ:∀A:World,(Builtin.firstCells e.size ([]:Z e.D).length (.slice R 0 0)).run P A=.ok ([]:oz).toArray A:=by intro A;cases R with|none=>simp[Builtin.firstCells]|some R=>exact run_firstCells_some (P:=P) A e.size 0 R 0 0 [] aD (λj x C=>by simp at C)
 by_cases hm:h.length=0;have hy:h=[]:=cB hm;subst hy;refine⟨.slice R 0 0,w,hw,[],?_,⟨_,rfl,.inl ⟨⟨_,rfl⟩,rfl,rfl⟩⟩,Fr.refl _ _,λ_ _ _=>rfl,λ_ _ _ ho hx=>⟨ho,hx⟩,aD,aD⟩;simp only[Builtin.append_];simp only[underlying,Sem.run_bind,run_program,ht,ht',Result.andThen_ok,Sem.run_pure,sizeOf,typeInfo,N,hsz,List.getElem?_toArray,dy,gI,E,bD,cY,bS,dm];simp only[fF]at X;have auu:d=[]:=cB (by rw[y];simp);subst auu;simp[X];cases R<;>simp[storeCells];refine grow [] 0 [] (λA _=>aAZ A) ⟨R,aD⟩ (by simp;omega) (oq.nil _ _ _) (by simpa using s) aD;have r:=Tj hs hc hl ho;have hln:o0+xs.length*e.size<=m.size:=by rw[hs];exact Nat.add_le_add_left (dN _ hc) _
 have hol:((m.toList.drop o0).take (xs.length*e.size)).length=xs.length*e.size:=r.1;by_cases aDR:xs.length+h.length<=cap;have M:o0+xs.length*e.size+d.length<=m.size:=by rw[y,hs,ig,<-dA];exact Nat.add_le_add_left (dN _ aDR) _
 have hst:=DX P b (o0+xs.length*e.size) T fr d 0 w m i MY (by simpa using M) L.rQ;simp only[eY]at hst;have MX:(Builtin.append_ #[t,t'] ty #[.slice (I ⟨b,o0,W⟩) xs.length cap,u]).run P w=.ok (.slice (I ⟨b,o0,W⟩) (xs.length+h.length) cap) (BZ w b (gv m (o0+xs.length*e.size) d) T fr):=by simp only[Builtin.append_];simp only[underlying,Sem.run_bind,run_program,ht,ht',Result.andThen_ok,Sem.run_pure,sizeOf,typeInfo,N,hsz,List.getElem?_toArray,dy,gI,E,bD,cY,bS,dm,aDR,X,sv,hst]
 have U:=qB i;rw[jm]at s;have hnb:b∉fps.flatten++l.flatten:=(eo.1 s).1;let f:Nat->Nat:=λc=>if c=b then o0+(xs++h).length*e.size else hw c
 refine⟨_,_,f,b::(fps++l).flatten,MX,?_,?_,?_,?_,?_,?_⟩;have htk:((gv m (o0+xs.length*e.size) d).toList.drop o0).take ((xs++h).length*e.size)=(m.toList.drop o0).take (xs.length*e.size)++d:=by
  have h2:((m.toList.drop o0).take (xs.length*e.size)++d).length=(xs++h).length*e.size:=by simp only[aq,hol,y,dA]
  have h3:(xs++h).length*e.size=xs.length*e.size+d.length:=by rw[aq,dA,y]
  apply dK;intro j;rw[mE];by_cases C:j<(xs++h).length*e.size;rw[aI C,F2 M];by_cases h1:j<xs.length*e.size;rw[nQ,bE J,mE,aI h1];rw[zip,bN J,hol];congr 1;omega;rw[aK C,cn J]
 have:=aiR (hw:=f) (w:=BZ w b (gv m (o0+xs.length*e.size) d) T fr) (xs:=xs++h) (cap:=cap) (fps:=fps++l) (EU U) (λj C=>MY j (by rwa[lr]at C)) (by rw[lr];exact hs) (by simp;omega) (by simp[f]) (by
  rw[htk];refine(r.append L).mono (λc g=>?_);have Q:c≠b:=by rintro rfl;exact hnb (by rwa[eX]at g)
  exact⟨rm Q,by simp[f,Q]⟩)
 rw[aq]at this;exact this;exact⟨rfl,rfl,rfl,by rw[qa];exact bq _,λc _ g=>rm (λe=>g (by simp[e]))⟩;intro c _ g;have Q:c≠b:=λe=>g (by simp[e]);simp[f,Q];intro c o x ho' hx;by_cases V:c=b;subst V;rw[hh]at ho';refine⟨?_,?_⟩;simp only[f,dm,aq,dA];omega;rw[vi (EU U),<-du,F2 M,nQ,du,<-vi i];exact hx;exact⟨by simp[f,V];exact ho',by rw[World.cell?_of_block (a:=⟨c,o,W⟩) (rm V)];exact hx⟩;refine eo.2 ⟨by rw[eX];exact hnb,?_⟩;rw[eX];exact(eo.1 s).2;intro c g;rw[qa];rcases bW.1 g with rfl|g;exact⟨U,.inl aD⟩;rw[eX,aB]at g;rcases g with g|g;exact⟨YI c (by simp[g]),.inl (by simp[g])⟩;exact⟨YI c (by simp[g]),.inr (.inl g)⟩;refine grow ((m.toList.drop o0).take (xs.length*e.size)) cap fps (λA hw1=>?_) ⟨_,rfl⟩ J r ?_ (λc g=>by simp[g]);refine run_firstCells_some (P:=P) A e.size xs.length ⟨b,o0,W⟩ xs.length cap _ hol (λj x C=>?_);have hb1:A.heap[b]?=I (.cells m T fr):=by rw[hw1];exact i
 rw[sv,vi hb1];rw[mE]at C;split at C;simpa using C;cases C;rw[jm]at s;exact(eo.1 s).2
def Ch (w:World)b o n:=(List.range n).map λj=>(w.cell? ⟨b,o+j,W⟩).getD undef
theorem ak5 {S u}{a:Z e.D}(h:mq w S (.sl e) [u] a)(Q:e.flat=true)hw: ∃k,Src P w e.size u a.length k/\oq hw w e k a (List.replicate a.length []):=by
 obtain⟨v,K,h⟩:=h;simp at K;subst K;rcases h with⟨⟨t,rfl⟩,rfl⟩|⟨b,o,z,rfl,R,h⟩;cases t with|none=>exact⟨[],⟨λ_=>rfl,λ_ _=>rfl⟩,oq.nil _ _ _⟩|some t=>exact⟨[],⟨λ_=>rfl,λH _=>run_firstCells_some (P:=P) H e.size 0 t 0 0 [] aD (λj x c=>by simp at c)⟩,oq.nil _ _ _⟩
 have A:∀j,j<a.length*e.size->∃x,w.cell? ⟨b,o+j,W⟩=I x:=by
  intro j c;have r:j/e.size<a.length:=by rw[Nat.div_lt_iff_lt_mul e.size_pos];exact c
  obtain⟨m,l,s⟩:=h (j/e.size) _ (ah r);have E:j%e.size<m.length:=by rw[mq.length s];exact Nat.mod_lt _ e.size_pos
  have:=(l (j%e.size) _ (ah E)).2;rw[ig,Nat.mul_comm,Nat.div_add_mod]at this;exact⟨_,this⟩
 have C:∀j x,(Ch w b o (a.length*e.size))[j]?=I x->w.cell? ⟨b,o+j,W⟩=I x:=by intro j x g;simp only[Ch,gz]at g;rcases ca j (a.length*e.size)with c|c;rw[List.getElem?_range c]at g;obtain⟨y,q⟩:=A j c;simp[q]at g;rw[q,g];rw[cn (by simpa using c)]at g;cases g
 have d:(Ch w b o (a.length*e.size)).length=a.length*e.size:=by simp[Ch]
 refine⟨Ch w b o (a.length*e.size),⟨λ_=>rfl,λH F=>?_⟩,⟨d,aD,λi y f q n=>?_⟩⟩;refine run_firstCells_some (P:=P) H e.size a.length ⟨b,o,W⟩ a.length z _ d (λj x c=>?_);rw[sv];have:=C j x c;simpa[World.cell?,F]using this;have r:i<a.length:=(aA.1 q).1;have B:f=[]:=by rw[dZ,aI r]at n;simpa using n.symm
 subst B;obtain⟨m,l,s⟩:=h i y q;have E:(i+1)*e.size<=a.length*e.size:=dN _ r;rw[dA,gJ]at E;have L:((Ch w b o (a.length*e.size)).drop (i*e.size)).take e.size=m:=by
  apply dK;intro j;rw[mE];have N:=mq.length s;split;rename_i c;have p:j<m.length:=J;have g:=(l j _ (ah p)).2;have M:(Ch w b o (a.length*e.size))[i*e.size+j]?=I m[j]:=by simp only[Ch,gz,List.getElem?_range (J:i*e.size+j<a.length*e.size),eP];rw[<-ig,g];rfl
  rw[M,ah p];rw[cn J]
 rw[L];exact WA s Q
theorem asA {u}{i:Z e.D}{o}(h:gX hw w (.sl e) [u] i o): ∃a d,Src P w e.size u i.length a/\oq hw w e a i d/\(∀b∈d.flatten,b∈o)/\(o.Nodup->d.flatten.Nodup):=by
 obtain⟨v,t,h⟩:=h;simp at t;subst t;rcases h with⟨⟨l,rfl⟩,rfl,rfl⟩|⟨b,H,n,m,T,y,p,rfl,z,K,F,A,J,rfl,B,E⟩;refine⟨[],[],⟨λ_=>rfl,λk _=>?_⟩,oq.nil _ _ _,aD,aD⟩;cases l with|none=>rfl|some l=>exact run_firstCells_some (P:=P) k e.size 0 l 0 0 [] aD (λj x f=>by simp at f)
 have g:=Tj F A B E;refine⟨_,p,⟨λ_=>rfl,λk s=>?_⟩,g,λc r=>by simp[r],λC=>(eo.1 C).2⟩;refine run_firstCells_some (P:=P) k e.size i.length ⟨b,H,W⟩ i.length n _ g.1 (λj x f=>?_);have q:k.heap[b]?=I (.cells m T y):=by rw[s];exact z
 rw[sv,vi q];rw[mE]at f;split at f;simpa using f;cases f
theorem asB s hw:∃a,Src P w (CT.size (.int .u8)) (.string ⟨s.toArray⟩) (dU s).length a/\oq hw w (.int .u8) a (dU s) (List.replicate (dU s).length []):=by
 have g:(dU s).length=s.length:=by simp[dU]
 refine⟨(dU s).map (Value.int .u8),⟨λh=>by simp[Builtin.lenOf,Fi,g],λh _=>?_⟩,⟨by simp[CT.size],aD,λi y f d c=>?_⟩⟩;have:(ByteArray.mk s.toArray).extract 0 s.length=ByteArray.mk s.toArray:=by rw[extract_mk];simp
 simp[Builtin.firstCells,this,dU];have e:i<(dU s).length:=(aA.1 d).1;have b:f=[]:=by rw[dZ,aI e]at c;simpa using c.symm
 subst b;refine⟨?_,rfl⟩;apply dK;intro j;rw[mE];simp only[CT.size,oO];cases j with|zero=>simp[d]|succ j=>simp
theorem ad2 {o s x t b}(e:o.op=.call {callee:=.builtin .append,args:=#[s,x],argTypes:=#[t,b]}){v c}(h:(Builtin.append_ #[t,b] o.type #[a.eval s,a.eval x]).run P w=.ok v c):(execOp a.eval o).run P w=.ok (.value v) c:=by have d:(#[s,x]:Array Operand).map a.eval=#[a.eval s,a.eval x]:=aD;simp only[execOp,e,resolve,d,Sem.run_bind,Sem.run_pure,Result.andThen_ok,invoke,builtin];show((Builtin.append_ #[t,b] o.type #[a.eval s,a.eval x]).run P w).andThen _=_;rw[h];rfl
theorem adF {E}(hE:mL P E.ty){o args ts}(ho:o.op=.call {callee:=.builtin .append,args,argTypes:=ts})(h:ub C st a w){K}(f:EV E o ts.toList args.toList st K=I r):rD P C o a w K r:=by
 obtain⟨g,hg⟩:=h;unfold EV at f;split at f;rename_i t t' s x hts aum;have ea:args=#[s,x]:=by apply gV;simpa using aum
 have et:ts=#[t,t']:=by apply gV;simpa using hts
 subst ea;subst et;split at f;rename_i tag e xs st1 aEj;obtain⟨g1,hg1⟩:=hg.take s;rw[aEj]at hg1;simp only[bF]at hg1;obtain⟨Q,i⟩:=hg1.take x
 have T:∀(u:AV)(M:AS),st1.take x=(u,M)->fL C Q M a w [(a.eval s,.val G [.sl (.own tag) e xs]),(a.eval x,u)]->∀(S:Z e.D)(d:oz)(n:Z gw)(N:gw),
  iY (dQ C Q M w) (a.eval x) u N->(∀b∈N,Q.gb b=I (.hand 1))->E.sl t=I e->∀dt,P.underlying t'=I dt->(∀k,dt≠ .int k)->
  Src P w e.size (a.eval x) S.length d->oq Q.hw w e d S n->(∀b∈n.flatten,b∈N)->n.flatten.Nodup->xs.length+S.length<=1073741824->
  K (M.wD o.dst e (xs++S))=I r->rD P C o a w K r:=by
  intro u M _ i S d n N _ m V dt hdt aAX j l L hnd z hkk
  obtain⟨fp,hrs,aBf,J⟩:=i.hands 0 _ _ rfl
  have ahU:=(gk hrs).1
  obtain⟨te,hu,he⟩:=Nu hE V
  have YI:∀b∈fp++n.flatten,b<w.heap.size:=by intro b B;rcases aB.1 B with B|B;exact(i.ju b _ (J b B)).1;exact(i.ju b _ (m b (L b B))).1
  have aBb:(fp++n.flatten).Nodup:=by refine aX.2 ⟨aBf,hnd,?_⟩;rintro b B c hc rfl;have U:=J b B;rw[m b (L b hc)]at U;cases U
  obtain⟨v',w',hw',fp',MX,aDw,H,hhw,auC,aBa,aA1⟩:=ag8 (ty:=o.type) hu he hdt aAX ahU j l YI aBb z
  refine⟨v',w',_,.inl (ad2 ho MX),?_,hkk⟩
  refine i.XM o.dst (hw':=hw') (fp:=fp') ⟨H.os,H.tape,H.output,H.size,λb B hh=>H.block b B (λhm=>hh (by rw[J b hm];rfl))⟩ ?_ auC aDw aBa ?_
  ·intro b y B hh
   refine hhw b (i.ju b y B).1 (λhm=>hh ?_)
   rw[<-B,J b hm];rfl
  ·intro b B
   obtain⟨U,R⟩:=aA1 b B
   refine⟨U,?_⟩
   rcases R with R|R|R
   ·exact .inl (by rw[J b R];rfl)
   ·exact .inl (by rw[m b (L b R)];rfl)
   ·exact .inr R
 split at f;rename_i fl e' S M p;split at f;rename_i Y;subst Y;split at f;rename_i hc;obtain⟨V,X,v⟩:=hc;unfold room at f;split at f;rename_i z;rw[p]at i;have q:fL C Q M a w [(a.eval s,.val G [.sl (.own tag) e' xs]),(a.eval x,.val G [.sl fl e' S])]:=i;obtain⟨N,A,hnq,m⟩:=q.hands 1 _ _ rfl;obtain⟨te',hu',_⟩:=Nu hE X;have hep:M.ep=st.ep:=by have U:= @adp st s;have R:= @adp st1 x;rw[aEj]at U;rw[p]at R;exact R.trans U
 have F:=gk A;cases fl with
 |nest _ _ _ _ _ _=>simp[BH.qn]at v
 |part _ _ _ _=>simp[BH.qn]at v
 |im _ _ _=>simp[BH.qn]at v
 |own tg=>obtain⟨d,n,j,l,L,hnd⟩:=asA (P:=P) F.1;exact T _ M p q S d n N A m V _ hu' aD j l L (hnd hnq) z f
 |arg _=>obtain⟨d,j,l⟩:=ak5 (P:=P) F.2 (by simpa[BH.qn]using v) Q.hw;exact T _ M p q S d _ N A m V _ hu' aD j l aD aD z f
 |loc ep pv=>
  simp only[BH.qn,af,bw]at v;have aAY:ep=(dQ C Q M w).ep:=by show ep=M.ep;rw[hep];exact v.1
  obtain⟨d,j,l⟩:=ak5 (P:=P) (F.2.2.2.1 aAY) v.2 Q.hw;exact T _ M p q S d _ N A m V _ hu' aD j l aD aD z f
 cases f;cases f;cases f;rename_i s0 M p;split at f;rename_i Y;subst Y;split at f;rename_i hc;obtain⟨V,X⟩:=hc;unfold room at f;split at f;rename_i z;rw[p]at i;have q:fL C Q M a w [(a.eval s,.val G [.sl (.own tag) (.int .u8) xs]),(a.eval x,.val G [.str s0])]:=i;obtain⟨N,A,hnq,m⟩:=q.hands 1 _ _ rfl;have F:=gk A;obtain⟨d,j,l⟩:=asB (P:=P) (w:=w) s0 Q.hw;rw[<-F.1]at j;have hl:(dU s0).length=s0.length:=by simp[dU]
 exact T _ M p q (dU s0) d _ N A m V _ (adl hE X) aD j l aD aD (by rw[hl];exact z) f;cases f;cases f;cases f;cases f;cases f;cases f
end Go.Dn
