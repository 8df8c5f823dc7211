import Derived.Test.YtbebkmajekhclaaGreatDnOps2
/- Part 3: an element of an owned slice is written. -/
namespace Go.Dn
open Go.RowKit
variable {P:Program} {C:Ctx} {st:AS} {a:Act} {w:World} {R:Type} {r:R}
variable {arr:Array Value} {gg:Bool} {e:CT} {i:Int} {off:Nat} {rt:lh} {sh:Shape} {T:TypeId} {vs:aw AC} {us:jd}
theorem zM {o:Nat}(h:o+us.length<=arr.size)(j:Nat): (ff arr o us).toList[j]?=if o<=j/\j<o+us.length then us[j-o]? else arr.toList[j]?:=by
 rw[xe us arr o h];have hl:(arr.toList.take o).length=o:=by rw[aV];simp;omega
 by_cases h1:j<o;rw[nX,aY,bE (by omega),dW,aH h1];by_cases h2:j<o+us.length;rw[zip,aY,bz (by omega),hl,bE (by omega)];rw[nX,bz (by rw[ai];omega),ai,hl,bS];congr 1;omega
theorem jM {l:jd}(p n j:Nat):((l.drop p).take n)[j]?=if j<n then l[p+j]? else none:=by rw[dW];split;rw[bS];rfl
theorem HN {o0 size n i:Nat}(Q1:off+us.length<=size)(hn:o0+(n+1)*size<=arr.size)(hi:i≠n): ((ff arr (o0+n*size+off) us).toList.drop (o0+i*size)).take size=(arr.toList.drop (o0+i*size)).take size:=by
 have DH:o0+n*size+size<=arr.size:=by rw[cM,fO]at hn;omega
 apply cI;intro j;rw[jM,jM];split;rename_i hj;rw[zM (by omega),aG];intro hc;rcases Nat.lt_or_gt_of_ne hi with h|h;have:(i+1)*size<=n*size:=cJ _ h;rw[cM,fO]at this;omega;have:(n+1)*size<=i*size:=cJ _ h;rw[cM,fO]at this;omega;rfl
theorem J5 {p size:Nat}(Q1:off+us.length<=size)(DH:p+size<=arr.size): ((ff arr (p+off) us).toList.drop p).take size= ((arr.toList.drop p).take size).take off++us++((arr.toList.drop p).take size).drop (off+us.length):=by
 have hl:((arr.toList.drop p).take size).length=size:=by simp;omega
 have Bq:(((arr.toList.drop p).take size).take off).length=off:=by rw[aV,hl];omega
 apply cI;intro j;rw[jM];by_cases hj:j<size;rw[aH hj,zM (by omega)];by_cases h1:j<off;rw[nX,aY,bE (by omega),dW,aH h1,jM,aH hj];by_cases h2:j<off+us.length;rw[zip,aY,bz (by omega),Bq,bE (by omega)];congr 1;omega;rw[nX,bz (by rw[ai];omega),ai,Bq,bS,jM,show off+us.length+(j-(off+us.length))=j by omega,aH hj];rw[aG hj,bC];simp only[ai,Bq,aL,hl];omega
theorem ajr {hw:Nat->Nat}{w:World}{v:Value}{xs:aw e.D}{fp0:fE}(h:fQ hw w (.sl e) [v] xs fp0){n:Nat}{x:e.D}(hx:xs[n]?=some x): ∃b o0 cap arr T fr f1 fx f3,v=.slice (some ⟨b,o0,none⟩) xs.length cap/\w.heap[b]?=some (.cells arr T fr)/\qQ arr fr/\o0+(n+1)*e.size<=arr.size/\ fQ hw w e ((arr.toList.drop (o0+n*e.size)).take e.size) x fx/\fp0=b::(f1++fx++f3)/\ ∀(w':World)(us:jd)(off:Nat)(x':e.D)(fx':fE),off+us.length<=e.size->w'.heap[b]?=some (.cells (ff arr (o0+n*e.size+off) us) T fr)-> (∀b'∈f1++f3,w'.heap[b']?=w.heap[b']?)->fQ hw w' e (((ff arr (o0+n*e.size+off) us).toList.drop (o0+n*e.size)).take e.size) x' fx'-> fQ hw w' (.sl e) [v] (xs.set n x') (b::(f1++fx'++f3)):=by
 obtain⟨u,hu,h⟩:=h;simp at hu;subst hu;have Mm:n<xs.length:=(aC.1 hx).1;rcases h with⟨⟨_,rfl⟩,rfl,rfl⟩|⟨b,o0,cap,arr,T,fr,fps,rfl,hb,tN,hs,hc,hh,rfl,hl,hr⟩;simp at hx;have R9:fps[n]?=some fps[n]:=ak (by omega);have IU:=FI R9;have hm:o0+(n+1)*e.size<=arr.size:=by rw[hs];exact Nat.add_le_add_left (cJ _ (by omega)) _
 refine⟨b,o0,cap,arr,T,fr,(fps.take n).flatten,fps[n],(fps.drop (n+1)).flatten,rfl,hb,tN,hm,hr n x _ hx R9,by rw[IU.1],?_⟩;intro w' us off x' fx' Q1 ix hk ik;refine⟨_,rfl,.inr ⟨b,o0,cap,ff arr (o0+n*e.size+off) us,T,fr,fps.set n fx',by simp,ix,λj hj=>tN j (by rwa[jb]at hj),by rw[jb];exact hs,by simpa using hc,by simpa using hh,by rw[IU.2],by simp[hl],?_⟩⟩;intro i y f hy hf;by_cases tV:i=n;subst tV;rw[bG]at hy hf;simp only[cg,Mm]at hy;simp only[cg]at hf;rw[zip]at hf;simp at hy hf;subst hy;subst hf;exact ik;rw[aP (cR tV)]at hy hf;rw[HN Q1 hm tV];refine fQ.mono (hr i y f hy hf) (λb' ap3=>⟨hk b' ?_,rfl⟩);have NJ:i<fps.length:=(aC.1 hf).1;have hfi:fps[i]=f:=by rw[ak NJ]at hf;simpa using hf
 rcases Nat.lt_or_gt_of_ne tV with gF|hgt;refine bH _ (List.mem_flatten.2 ⟨f,?_,ap3⟩);rw[List.mem_take_iff_getElem];exact⟨i,by omega,hfi⟩;refine bu _ (List.mem_flatten.2 ⟨f,?_,ap3⟩);rw[List.mem_drop_iff_getElem];exact⟨i-(n+1),by omega,by rw[<-hfi];congr 1;omega⟩
theorem Xk {α:Type}{xs:aw α}{x:α}(h:idx xs i=some x):∃n:Nat,i=n/\xs[n]?=some x:=by cases i with|ofNat n=>exact⟨n,rfl,h⟩|negSucc n=>simp[idx]at h
theorem QV {E:Env}(hE:jR P E.ty){o:Oper}{p x:Operand}(hd:o.dst=none)(ho:o.op=.store T p x){K:AS->ay R}{t':Nat}{bU:AS}{g':Gh}(hT:jD E.ty T=some sh)(hlen:vs.length=sh.ct.size)(oX:ew C g' bU a w [(a.eval x,.val gg vs)]){b o0 len cap n:Nat}{q:ay Nat}{xs:aw e.D}{x':e.D}(hv:a.eval p=.pointer (some ⟨b,o0+n*e.size,none⟩))(hrt:g'.hdr t'=.slice (some ⟨b,o0,none⟩) len cap)(tV:i=n)(iE:bU.fH rt=some (.sl (.fR (some t') i q) e xs))(hof:ma e vs=some (x',[]))(hk:K {bU.fM rt (.sl (.own (some t')) e (xs.set i.toNat x'))with ep:=bU.ep+1}=some r):nC P C o a w K r:=by
 obtain⟨v0,f2,fG,Dh,Bq,pq⟩:=oX.Vi rt (by simp) iE;obtain⟨_,⟨k,hik,ik⟩,aqA⟩:=fG;have hkn:k=n:=by omega
 subst hkn;obtain⟨b2,o2,Z8,arr,T',fr,fps,O5,kL,tN,hs,hc,hh,Ax,hl,Xa,hfk,hr⟩:=ik;have kL:w.heap[b2]?=some (.cells arr T' fr):=kL;have h1:v0=g'.hdr t':=(aqA t' rfl).2;rw[hrt,O5]at h1;simp only[Value.slice.injEq,bp,Addr.mk.injEq]at h1;obtain⟨⟨rfl,rfl,_⟩,_⟩:=h1;obtain⟨fh,⟨us,fS,ZG⟩,QK,Xc⟩:=oX.hands 0 _ _ rfl;obtain⟨q1,q2,hq,hq1,hq2⟩:=zK ZG hof;have W7:us.drop e.size=[]:=by cases hd0:us.drop e.size with|nil=>rfl|cons _ _=>rw[hd0]at hq2;exact hq2.elim
 rw[W7]at hq2;have aog:q2=[]:=hq2;subst aog;rw[bI]at hq;subst hq;have hus:us.take e.size=us:=by have:=cE e.size us;rw[W7,bI]at this;exact this
 rw[hus]at hq1;have hul:us.length=e.size:=fQ.length hq1;have vB:o2+(k+1)*e.size<=arr.size:=by rw[hs];exact Nat.add_le_add_left (cJ _ (by omega)) _
 have ae3:o2+k*e.size+e.size<=arr.size:=by rw[cM,fO]at vB;omega
 let w':=vG w b2 (ff arr (o2+k*e.size+0) us) T' fr;have GV:=na kL;have VM:∀c,c≠b2->w'.heap[c]?=w.heap[c]?:=λc hc=>nu hc;have awa:=ZG.length;have Xh:=EM (P:=P) (w:=w) (hE T sh hT) b2 (o2+k*e.size+0) fS (by omega) (λu hu=>fQ.nR hq1 u hu) kL tN;have eU:(execOp a.eval o).run P w=.ok .skip w':=by simp only[execOp,ho,hv,Instr.storeAt,Instr.sureAddr,Sem.run_bind,Sem.run_pure,Result.andThen_ok];show((storeVar T ⟨b2,o2+k*e.size+0,none⟩ (a.eval x)).run P w).andThen _=_;rw[Xh];rfl
 have IU:=FI hfk;have xH:b2∉fps.flatten:=by rw[Ax]at Dh;exact(dD.1 Dh).1
 have hnf:fps.flatten.Nodup:=by rw[Ax]at Dh;exact(dD.1 Dh).2
 have QY:∀c∈fh,c∉f2:=by intro c hc hm;have h1:=Xc c hc;rw[Bq c hm]at h1;cases rt<;>cases h1
 have aqc:∀c∈fh,c≠b2:=λc hc e=>QY c hc (by rw[Ax,e];simp);have amL:∀c,c∈(fps.set k fh).flatten↔c∈fps.flatten\/c∈fh:=by intro c;rw[IU.2,IU.1];simp only[az,List.not_mem_nil,or_false];constructor;rintro((h|h)|h)<;>simp[h];rintro((h|h)|h)<;>simp[h]
 have aiB:fQ g'.hw w' (.sl e) [v0] (xs.set k x') (b2::(fps.set k fh).flatten):=by
  refine⟨v0,rfl,.inr ⟨b2,o2,Z8,ff arr (o2+k*e.size+0) us,T',fr,fps.set k fh,by rw[O5];simp,yp GV,λj hj=>tN j (by rwa[jb]at hj),by rw[jb];exact hs,by simpa using hc,by rw[aB];exact hh,rfl,by simp[hl],?_⟩⟩;intro j y f hy hf;by_cases hjk:j=k;subst hjk;rw[bG]at hy hf;simp only[cg,Xa]at hy;simp only[cg]at hf;rw[zip]at hf;simp at hy hf;subst hy;subst hf;rw[J5 (by omega) ae3];have e1:((arr.toList.drop (o2+j*e.size)).take e.size).take 0++us++((arr.toList.drop (o2+j*e.size)).take e.size).drop (0+us.length)=us:=by rw[List.take_zero,ch,dg (by simp;omega),bI]
  rw[e1];exact fQ.mono hq1 (λc hc=>⟨VM c (aqc c hc),rfl⟩);rw[aP (cR hjk)]at hy hf;rw[HN (by omega) vB hjk];refine fQ.mono (hr j y f hjk hy hf) (λc hc=>⟨VM c (λe0=>xH ?_),rfl⟩);rw[<-e0];exact List.mem_flatten.2 ⟨f,aW hf,hc⟩
 have avy:(b2::(fps.set k fh).flatten).Nodup:=by
  refine dD.2 ⟨λhm=>?_,?_⟩;rcases(amL b2).1 hm with h|h;exact xH h;exact aqc b2 h rfl;rw[IU.2];rw[IU.1,bI]at hnf;have m:=aN.1 hnf;have aqe:∀c,c∈(fps.take k).flatten\/c∈(fps.drop (k+1)).flatten->c∈f2:=by intro c hc;rw[Ax,IU.1];rcases hc with hc|hc<;>simp[hc]
  refine aN.2 ⟨aN.2 ⟨m.1,QK,?_⟩,m.2.1,?_⟩;rintro c hc d hd rfl;exact QY c hd (aqe c (.inl hc));rintro c hc d hd rfl;rcases az.1 hc with hc|hc;exact m.2.2 c hc c hd rfl;exact QY c hc (aqe c (.inr hd))
 have avq:i.toNat=k:=by omega
 rw[avq]at hk
 obtain⟨g2,Ik⟩:=pq w' g'.hw (.sl (.own (some t')) e (xs.set k x')) (b2::(fps.set k fh).flatten) (λc' hle VK Ho=>⟨by rw[VK,Ho];exact aiB,λt ht=>by simp at ht;subst ht;have h0:=aqA t' rfl;exact⟨(hle.hdr t' h0.1).1,by rw[(hle.hdr t' h0.1).2];exact h0.2⟩⟩) avy (λc hc=>by
  show _<(vG _ _ _ _ _).heap.size/\_
  rw[mB]
  rcases bM.1 hc with rfl|hc
  ·exact⟨GV,.inl (by rw[Ax];simp)⟩
  ·rcases(amL c).1 hc with h|h
   ·have:c∈f2:=by rw[Ax];simp[h]
    exact⟨(oX.gL c _ (Bq c this)).1,.inl this⟩
   ·exact⟨(oX.gL c _ (Xc c h)).1,.inr (by rw[Xc c h];rfl)⟩)
  ⟨rfl,rfl,rfl,by show _<=(vG _ _ _ _ _).heap.size;rw[mB];exact bh _,λc _ hc=>VM c (λe=>hc (.inr (by rw[Ax,e];simp)))⟩ (λ_ _ _ _ _=>rfl)
 refine⟨undef,_,_,.inr ⟨rfl,eU⟩,?_,hk⟩;rw[hd];exact⟨g2,Ik⟩
theorem Rr {E:Env}(hE:jR P E.ty){o:Oper}{p x:Operand}(hd:o.dst=none)(ho:o.op=.store T p x)(h:pc C st a w){K:AS->ay R}{ep t:Nat}{y:e.D}{bU:AS}(hT:jD E.ty T=some sh)(hp:st.rd p=.val false [.Dc (.loc ep (some (rt,t))) e y i off])(ue:st.take x=(.val gg vs,bU))(hlen:vs.length=sh.ct.size)(ib:off+sh.ct.size<=e.size)(hk:bU.qx rt t e i off vs K=some r):nC P C o a w K r:=by
 obtain⟨g,hg⟩:=h;have vZ:=hg.rd p;rw[hp]at vZ;obtain⟨_,b,ob,hv,_,_,HA⟩:=fb vZ;obtain⟨_,n,o0,len,cap,tV,hrt,Mm,hob⟩:=HA rt t rfl;obtain⟨g',⟨K5,GW,QZ,_⟩,oX⟩:=hg.akB x;rw[ue]at oX;unfold AS.qx at hk;split at hk;rename_i t' e' xs iE;split at hk;rename_i hee;subst hee;split at hk
 ·rename_i htt
  subst htt
  simp only at hk
  cases FR:idx xs i with
  |none=>rw[FR]at hk;simp[aa]at hk
  |some x0=>
  rw[FR]at hk
  simp only[aa]at hk
  split at hk
  ·rename_i x' hof
   obtain⟨n',DH,hx0⟩:=Xk FR
   have OY:n'=n:=by omega
   subst OY
   obtain⟨v0,f2,Sg,ik,Dh,Bq,pq⟩:=oX.Vj rt iE
   have Sg: .slice (some ⟨b,o0,none⟩) len cap=v0:=by have h1:=Sg t' rfl;have h2:g.hdr t'=.slice (some ⟨b,o0,none⟩) len cap:=hrt;rw[h1,QZ,h2]
   obtain⟨b2,o2,Z8,arr,T',fr,f1,fx,f3,O5,kL,tN,vB,O1,E7,FX⟩:=ajr ik hx0
   rw[<-Sg]at O5
   simp only[Value.slice.injEq,bp,Addr.mk.injEq]at O5
   obtain⟨⟨rfl,rfl,_⟩,_⟩:=O5
   obtain⟨fh,⟨us,fS,ZG⟩,QK,Xc⟩:=oX.hands 0 _ _ rfl
   have hul:=ZG.length
   have amK:off+us.length<=e'.size:=by omega
   have ae3:(o0+n'*e'.size)+e'.size<=arr.size:=by rw[cM,fO]at vB;omega
   have aqu:=Bu (c:=db C g' bU w) O1
   obtain⟨k1,k2,k3,hkx,r1,r2,r3⟩:=aqu.mid off us.length
   have aqb:=Dh
   rw[E7]at aqb
   have xH:=dD.1 aqb
   have QY:∀c∈fh,c∉f2:=by intro c hc hm;have h1:=Xc c hc;rw[Bq c hm]at h1;cases rt<;>cases h1
   let w':=vG w b (ff arr ((o0+n'*e'.size)+off) us) T' fr
   have GV:=na kL
   have VM:∀c,c≠b->w'.heap[c]?=w.heap[c]?:=λc hc=>nu hc
   have aoj:∀u∈us,u.oneCell'=true:=by
    have K4:bO (db C g' bU w) (((arr.toList.drop (o0+n'*e'.size)).take e'.size).take off++us++((arr.toList.drop (o0+n'*e'.size)).take e'.size).drop (off+us.length))
     (eP (cellsOf e' (.own none) x0) off vs) (k1++fh++k3):=by
     have e2:eP (cellsOf e' (.own none) x0) off vs=(cellsOf e' (.own none) x0).take off++vs++(cellsOf e' (.own none) x0).drop (off+us.length):=by simp only[eP];rw[hul]
     rw[e2]
     exact(r1.append ZG).append r3
    obtain⟨q1,q2,hq,hq1,hq2⟩:=zK K4 hof;have aqk:(((arr.toList.drop (o0+n'*e'.size)).take e'.size).take off++us++((arr.toList.drop (o0+n'*e'.size)).take e'.size).drop (off+us.length)).length=e'.size:=by rw[K4.length,HT (by rw[lF];omega),lF]
    rw[cd (by omega)]at hq1;intro u hu;exact fQ.nR hq1 u (by simp[hu])
   have Xh:=EM (P:=P) (w:=w) (hE T sh hT) b ((o0+n'*e'.size)+off) fS (by omega) aoj kL tN
   have eU:(execOp a.eval o).run P w=.ok .skip w':=by simp only[execOp,ho,hv,Instr.storeAt,Instr.sureAddr,Sem.run_bind,Sem.run_pure,Result.andThen_ok];show((storeVar T ⟨b,ob+off,none⟩ (a.eval x)).run P w).andThen _=_;rw[hob,Xh];rfl
   have hle:(db C g' bU w).Le ⟨g'.hw,g'.β,C.A,g'.hdr,nD bU,bU.ep+1,jF bU,w'⟩:=by
    refine⟨rfl,λ_ ht=>⟨ht,rfl⟩,λk c o u hA hu=>?_,Nat.le_succ _,λ_ hs=>⟨hs,rfl⟩,λhe=>absurd he (Nat.succ_ne_self _)⟩;have DK:c≠b:=by rintro rfl;exact oX.Pq (Bq c (by rw[E7];simp)) k o hA
    rw[World.cell?_of_block (a:=⟨c,o,none⟩) (VM c DK)];exact hu
   have aqh:∀c∈fx,c≠b:=by rintro c hc rfl;exact xH.1 (by simp[hc])
   have K4:bO ⟨g'.hw,g'.β,C.A,g'.hdr,nD bU,bU.ep+1,jF bU,w'⟩
    (((ff arr ((o0+n'*e'.size)+off) us).toList.drop (o0+n'*e'.size)).take e'.size) (eP (cellsOf e' (.own none) x0) off vs) (k1++fh++k3):=by
    have e2:eP (cellsOf e' (.own none) x0) off vs=(cellsOf e' (.own none) x0).take off++vs++(cellsOf e' (.own none) x0).drop (off+us.length):=by simp only[eP];rw[hul]
    rw[e2,J5 amK ae3]
    refine((r1.mono hle (λc hc=>⟨VM c (aqh c (by rw[hkx];simp[hc])),rfl⟩)).append
     (ZG.mono hle (λc hc=>⟨VM c (λe=>QY c hc (by rw[E7,e];simp)),rfl⟩))).append
     (r3.mono hle (λc hc=>⟨VM c (aqh c (by rw[hkx];simp[hc])),rfl⟩))
   obtain⟨q1,q2,hq,hq1,hq2⟩:=zK K4 hof
   have aqk:(((ff arr ((o0+n'*e'.size)+off) us).toList.drop (o0+n'*e'.size)).take e'.size).length=e'.size:=by rw[K4.length,HT (by rw[lF];omega),lF]
   rw[dg (by omega)]at hq2
   have aog:q2=[]:=hq2
   subst aog
   rw[cd (by omega)]at hq1
   rw[bI]at hq
   have aiB:=FX w' us off x' q1 amK (yp GV) (λc hc=>VM c (λe=>xH.1 (by rw[<-e];rcases az.1 hc with k|k<;>simp[k]))) hq1
   have Dg:∀c∈b::(f1++q1++f3),c∈f2\/c∈fh:=by intro c hc;rw[<-hq]at hc;simp only[bM,az]at hc;rw[E7,hkx];simp only[bM,az];rcases hc with hc|((hc|((hc|hc)|hc))|hc)<;>simp[hc]
   have GX:(b::(f1++q1++f3)).Nodup:=by
    have hx2:=xH.2;rw[hkx]at hx2;rw[aY]at hx2;have m1:=aN.1 hx2;have m2:=aN.1 m1.2.1;have m2a:=m2.1;rw[aY]at m2a;have m3:=aN.1 m2a;have m4:=aN.1 m3.2.1;have inx:∀c,(c∈f1\/c∈k1\/c∈k3\/c∈f3)->c∈f2:=by intro c hc;rw[E7,hkx];simp only[bM,az];rcases hc with hc|hc|hc|hc<;>simp[hc]
    rw[<-hq];refine dD.2 ⟨λhm=>?_,?_⟩;simp only[az]at hm;rcases hm with(hm|((hm|hm)|hm))|hm;exact xH.1 (by simp[hm]);exact xH.1 (by rw[hkx];simp[hm]);exact QY b hm (by rw[E7];simp);exact xH.1 (by rw[hkx];simp[hm]);exact xH.1 (by simp[hm]);rw[aY];refine aN.2 ⟨m1.1,aN.2 ⟨?_,m2.2.1,?_⟩,?_⟩;rw[aY];refine aN.2 ⟨m3.1,aN.2 ⟨QK,m4.2.1,?_⟩,?_⟩;rintro c hc d hd rfl;exact QY c hc (inx c (by simp[hd]));rintro c hc d hd rfl;rcases az.1 hd with hd|hd;exact QY c hd (inx c (by simp[hc]));exact m3.2.2 c hc c (bu _ hd) rfl;rintro c hc d hd rfl;simp only[az]at hc;rcases hc with(hc|hc)|hc;exact m2.2.2 c (by simp[hc]) c hd rfl;exact QY c hc (inx c (by simp[hd]));exact m2.2.2 c (by simp[hc]) c hd rfl;rintro c hc d hd rfl;simp only[az]at hd;rcases hd with((hd|hd)|hd)|hd;exact m1.2.2 c hc c (by simp[hd]) rfl;exact QY c hd (inx c (by simp[hc]));exact m1.2.2 c hc c (by simp[hd]) rfl;exact m1.2.2 c hc c (by simp[hd]) rfl
   have anY:Fr (λc=>ei (g'.eX c)\/c∈f2) w w':=⟨rfl,rfl,rfl,by show _<=(vG _ _ _ _ _).heap.size;rw[mB];exact bh _,λc _ hc=>VM c (λe=>hc (.inr (by rw[E7,e];simp)))⟩
   obtain⟨g2,Ik⟩:=pq w' g'.hw (xs.set n' x') (b::(f1++q1++f3)) aiB GX (λc hc=>by rcases Dg c hc with k|k;exact⟨by show _<(vG _ _ _ _ _).heap.size;rw[mB];exact(oX.gL c _ (Bq c k)).1,.inl k⟩;exact⟨by show _<(vG _ _ _ _ _).heap.size;rw[mB];exact(oX.gL c _ (Xc c k)).1,.inr (by rw[Xc c k];rfl)⟩) anY (λ_ _ _ _ _=>rfl)
   refine⟨undef,_,_,.inr ⟨rfl,eU⟩,?_,hk⟩
   rw[hd]
   have an0:i.toNat=n':=by omega
   rw[an0]
   exact⟨g2,Ik⟩
  ·cases hk
 cases hk;cases hk;rename_i t' i' q e' xs iE;split at hk;rename_i hee;subst hee;split at hk;rename_i hc;obtain⟨rfl,rfl⟩:=hc;simp only at hk;cases FR:ae4 xs i' i with|none=>rw[FR]at hk;simp[aa]at hk|some x0=>obtain⟨rfl,awg⟩:=ae5 FR;rw[FR]at hk;simp only[aa]at hk;split at hk;rename_i x' hof;exact QV hE hd ho hT hlen oX (by rw[hv,hob,eG]) (by rw[QZ];exact hrt) tV iE hof hk;cases hk
 cases hk;cases hk;cases hk
theorem acL {E:Env}(hE:jR P E.ty){o:Oper}{p x:Operand}(hd:o.dst=none)(ho:o.op=.store T p x)(h:pc C st a w){K:AS->ay R}(hk:yn E T p x st K=some r):nC P C o a w K r:=by unfold yn at hk;split at hk;rename_i sh s off hT hp;split at hk;rename_i gg vs bU ue;split at hk;rename_i cs kq;split at hk;rename_i hlen;split at hk;rename_i ib;exact Rp hE hd ho h hT hp ue kq hlen.1 hlen.2 ib hk;cases hk;cases hk;cases hk;cases hk;rename_i sh ep rt t e y i off hT hp;split at hk;rename_i gg vs bU ue;split at hk;rename_i hc;exact Rr hE hd ho h hT hp ue hc.1 hc.2 hk;cases hk;cases hk;cases hk
end Go.Dn
