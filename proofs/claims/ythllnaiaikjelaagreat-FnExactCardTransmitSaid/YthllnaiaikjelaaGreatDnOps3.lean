import Derived.Test.YthllnaiaikjelaaGreatDnOps2
/- Part 3: an element of an owned slice is written. -/
namespace Go.Dn
open Go.RowKit
variable {P:Program} {C:Ctx} {st:AS} {a:Act} {w:World} {R:Type} {r:R}
variable {arr:Array Value} {gg:Bool} {e:CT} {off:Nat} {rt:jR} {sh:Shape} {T:TypeId} {vs:aq AC} {us:gO}
theorem yZ {o:Nat}(h:o+us.length<=arr.size)(j:Nat): (ef arr o us).toList[j]?=if o<=j/\j<o+us.length then us[j-o]? else arr.toList[j]?:=by
 rw[wx us arr o h];have hl:(arr.toList.take o).length=o:=by rw[bm];simp;omega
 by_cases h1:j<o;rw[mL,aO,bu (by omega),cS,aH h1];by_cases h2:j<o+us.length;rw[zip,aO,bq (by omega),hl,bu (by omega)];rw[mL,bq (by rw[au];omega),au,hl,bB];congr 1;omega
theorem iT {l:gO}(p n j:Nat):((l.drop p).take n)[j]?=if j<n then l[p+j]? else none:=by rw[cS];split;rw[bB];rfl
theorem Ij {o0 size n i:Nat}(PZ:off+us.length<=size)(hn:o0+(n+1)*size<=arr.size)(hi:i≠n): ((ef arr (o0+n*size+off) us).toList.drop (o0+i*size)).take size=(arr.toList.drop (o0+i*size)).take size:=by
 have Ae:o0+n*size+size<=arr.size:=by rw[bZ,dL]at hn;omega
 apply cA;intro j;rw[iT,iT];split;rename_i hj;rw[yZ (by omega),aG];intro hc;rcases Nat.lt_or_gt_of_ne hi with h|h;have:(i+1)*size<=n*size:=cq _ h;rw[bZ,dL]at this;omega;have:(n+1)*size<=i*size:=cq _ h;rw[bZ,dL]at this;omega;rfl
theorem Ke {p size:Nat}(PZ:off+us.length<=size)(Ae:p+size<=arr.size): ((ef arr (p+off) us).toList.drop p).take size= ((arr.toList.drop p).take size).take off++us++((arr.toList.drop p).take size).drop (off+us.length):=by
 have hl:((arr.toList.drop p).take size).length=size:=by simp;omega
 have zT:(((arr.toList.drop p).take size).take off).length=off:=by rw[bm,hl];omega
 apply cA;intro j;rw[iT];by_cases hj:j<size;rw[aH hj,yZ (by omega)];by_cases h1:j<off;rw[mL,aO,bu (by omega),cS,aH h1,iT,aH hj];by_cases h2:j<off+us.length;rw[zip,aO,bq (by omega),zT,bu (by omega)];congr 1;omega;rw[mL,bq (by rw[au];omega),au,zT,bB,iT,show off+us.length+(j-(off+us.length))=j by omega,aH hj];rw[aG hj,br];simp only[au,zT,bl,hl];omega
theorem ael {hw:Nat->Nat}{w:World}{v:Value}{xs:aq e.D}{Zl:dy}(h:dY hw w (.sl e) [v] xs Zl){n:Nat}{x:e.D}(hx:xs[n]?=some x): ∃b o0 cap arr T fr f1 fx f3,v=.slice (some ⟨b,o0,none⟩) xs.length cap/\w.heap[b]?=some (.cells arr T fr)/\pe arr fr/\o0+(n+1)*e.size<=arr.size/\ dY hw w e ((arr.toList.drop (o0+n*e.size)).take e.size) x fx/\Zl=b::(f1++fx++f3)/\ ∀(w':World)(us:gO)(off:Nat)(x':e.D)(fx':dy),off+us.length<=e.size->w'.heap[b]?=some (.cells (ef arr (o0+n*e.size+off) us) T fr)-> (∀b'∈f1++f3,w'.heap[b']?=w.heap[b']?)->dY hw w' e (((ef arr (o0+n*e.size+off) us).toList.drop (o0+n*e.size)).take e.size) x' fx'-> dY hw w' (.sl e) [v] (xs.set n x') (b::(f1++fx'++f3)):=by
 obtain⟨u,hu,h⟩:=h;simp at hu;subst hu;have Jm:n<xs.length:=(aD.1 hx).1;rcases h with⟨⟨_,rfl⟩,rfl,rfl⟩|⟨b,o0,cap,arr,T,fr,fps,rfl,hb,qf,hs,hc,hh,rfl,hl,hr⟩;simp at hx;have MZ:fps[n]?=some fps[n]:=ax (by omega);have HP:=Ch MZ;have hm:o0+(n+1)*e.size<=arr.size:=by rw[hs];exact Nat.add_le_add_left (cq _ (by omega)) _
 refine⟨b,o0,cap,arr,T,fr,(fps.take n).flatten,fps[n],(fps.drop (n+1)).flatten,rfl,hb,qf,hm,hr n x _ hx MZ,by rw[HP.1],?_⟩;intro w' us off x' fx' PZ gA hk eK;refine⟨_,rfl,.inr ⟨b,o0,cap,ef arr (o0+n*e.size+off) us,T,fr,fps.set n fx',by simp,gA,λj hj=>qf j (by rwa[ik]at hj),by rw[ik];exact hs,by simpa using hc,by simpa using hh,by rw[HP.2],by simp[hl],?_⟩⟩;intro i y f hy hf;by_cases uQ:i=n;subst uQ;rw[bj]at hy hf;simp only[bF,Jm]at hy;simp only[bF]at hf;rw[zip]at hf;simp at hy hf;subst hy;subst hf;exact eK;rw[aS (cC uQ)]at hy hf;rw[Ij PZ hm uQ];refine dY.mono (hr i y f hy hf) (λb' ac4=>⟨hk b' ?_,rfl⟩);have N6:i<fps.length:=(aD.1 hf).1;have hfi:fps[i]=f:=by rw[ax N6]at hf;simpa using hf
 rcases Nat.lt_or_gt_of_ne uQ with gM|hgt;refine bh _ (List.mem_flatten.2 ⟨f,?_,ac4⟩);rw[List.mem_take_iff_getElem];exact⟨i,by omega,hfi⟩;refine aX _ (List.mem_flatten.2 ⟨f,?_,ac4⟩);rw[List.mem_drop_iff_getElem];exact⟨i-(n+1),by omega,by rw[<-hfi];congr 1;omega⟩
theorem Oc {α:Type}{xs:aq α}{i:Int}{x:α}(h:idx xs i=some x):∃n:Nat,i=n/\xs[n]?=some x:=by cases i with|ofNat n=>exact⟨n,rfl,h⟩|negSucc n=>simp[idx]at h
theorem PW {E:Env}(hE:iV P E.ty){o:Oper}{p x:Operand}(hd:o.dst=none)(ho:o.op=.store T p x){K:AS->ar R}{t':Nat}{i:Int}{st':AS}{g':Gh}(hT:iC E.ty T=some sh)(hlen:vs.length=sh.ct.size)(ml:dr C g' st' a w [(a.eval x,.val gg vs)]){b o0 len cap n:Nat}{q:ar Nat}{xs:aq e.D}{x':e.D}(hv:a.eval p=.pointer (some ⟨b,o0+n*e.size,none⟩))(hrt:g'.hdr t'=.slice (some ⟨b,o0,none⟩) len cap)(uQ:i=n)(gI:st'.eF rt=some (.sl (.eS (some t') i q) e xs))(Zu:iy e vs=some (x',[]))(hk:K {st'.eM rt (.sl (.own (some t')) e (xs.set i.toNat x'))with ep:=st'.ep+1}=some r):mq P C o a w K r:=by
 obtain⟨v0,f2,dx,B6,zT,kJ⟩:=ml.Tc rt (by simp) gI;obtain⟨_,⟨k,hik,eK⟩,aiA⟩:=dx;have hkn:k=n:=by omega
 subst hkn;obtain⟨b2,o2,T6,arr,T',fr,fps,L3,iZ,qf,hs,hc,hh,D0,hl,hkl,hfk,hr⟩:=eK;have iZ:w.heap[b2]?=some (.cells arr T' fr):=iZ;have h1:v0=g'.hdr t':=(aiA t' rfl).2;rw[hrt,L3]at h1;simp only[Value.slice.injEq,aZ,Addr.mk.injEq]at h1;obtain⟨⟨rfl,rfl,_⟩,_⟩:=h1;obtain⟨fh,⟨us,dU,WH⟩,L2,UK⟩:=ml.hands 0 _ _ rfl;obtain⟨q1,q2,hq,XD,XE⟩:=nK WH Zu;have UH:us.drop e.size=[]:=by cases hd0:us.drop e.size with|nil=>rfl|cons _ _=>rw[hd0]at XE;exact XE.elim
 rw[UH]at XE;have adr:q2=[]:=XE;subst adr;rw[bt]at hq;subst hq;have P2:us.take e.size=us:=by have:=cg e.size us;rw[UH,bt]at this;exact this
 rw[P2]at XD;have hul:us.length=e.size:=dY.length XD;have sD:o2+(k+1)*e.size<=arr.size:=by rw[hs];exact Nat.add_le_add_left (cq _ (by omega)) _
 have aaJ:o2+k*e.size+e.size<=arr.size:=by rw[bZ,dL]at sD;omega
 let w':=uw w b2 (ef arr (o2+k*e.size+0) us) T' fr;have H0:=lE iZ;have WE:∀c,c≠b2->w'.heap[c]?=w.heap[c]?:=λc hc=>mf hc;have ap6:=WH.length;have UQ:=E8 (P:=P) (w:=w) (hE T sh hT) b2 (o2+k*e.size+0) dU (by omega) (λu hu=>dY.mD XD u hu) iZ qf;have dD:(execOp a.eval o).run P w=.ok .skip w':=by simp only[execOp,ho,hv,Instr.storeAt,Instr.sureAddr,Sem.run_bind,Sem.run_pure,Result.andThen_ok];show((storeVar T ⟨b2,o2+k*e.size+0,none⟩ (a.eval x)).run P w).andThen _=_;rw[UQ];rfl
 have HP:=Ch hfk;have sr:b2∉fps.flatten:=by rw[D0]at B6;exact(cJ.1 B6).1
 have hnf:fps.flatten.Nodup:=by rw[D0]at B6;exact(cJ.1 B6).2
 have PY:∀c∈fh,c∉f2:=by intro c hc hm;have h1:=UK c hc;rw[zT c hm]at h1;cases rt<;>cases h1
 have aif:∀c∈fh,c≠b2:=λc hc e=>PY c hc (by rw[D0,e];simp);have L1:∀c,c∈(fps.set k fh).flatten↔c∈fps.flatten\/c∈fh:=by intro c;rw[HP.2,HP.1];simp only[ay,List.not_mem_nil,or_false];constructor;rintro((h|h)|h)<;>simp[h];rintro((h|h)|h)<;>simp[h]
 have ado:dY g'.hw w' (.sl e) [v0] (xs.set k x') (b2::(fps.set k fh).flatten):=by
  refine⟨v0,rfl,.inr ⟨b2,o2,T6,ef arr (o2+k*e.size+0) us,T',fr,fps.set k fh,by rw[L3];simp,xA H0,λj hj=>qf j (by rwa[ik]at hj),by rw[ik];exact hs,by simpa using hc,by rw[bg];exact hh,rfl,by simp[hl],?_⟩⟩;intro j y f hy hf;by_cases hjk:j=k;subst hjk;rw[bj]at hy hf;simp only[bF,hkl]at hy;simp only[bF]at hf;rw[zip]at hf;simp at hy hf;subst hy;subst hf;rw[Ke (by omega) aaJ];have e1:((arr.toList.drop (o2+j*e.size)).take e.size).take 0++us++((arr.toList.drop (o2+j*e.size)).take e.size).drop (0+us.length)=us:=by rw[List.take_zero,cp,cP (by simp;omega),bt]
  rw[e1];exact dY.mono XD (λc hc=>⟨WE c (aif c hc),rfl⟩);rw[aS (cC hjk)]at hy hf;rw[Ij (by omega) sD hjk];refine dY.mono (hr j y f hjk hy hf) (λc hc=>⟨WE c (λe0=>sr ?_),rfl⟩);rw[<-e0];exact List.mem_flatten.2 ⟨f,dw hf,hc⟩
 have apI:(b2::(fps.set k fh).flatten).Nodup:=by
  refine cJ.2 ⟨λhm=>?_,?_⟩;rcases(L1 b2).1 hm with h|h;exact sr h;exact aif b2 h rfl;rw[HP.2];rw[HP.1,bt]at hnf;have m:=aB.1 hnf;have ahh:∀c,c∈(fps.take k).flatten\/c∈(fps.drop (k+1)).flatten->c∈f2:=by intro c hc;rw[D0,HP.1];rcases hc with hc|hc<;>simp[hc]
  refine aB.2 ⟨aB.2 ⟨m.1,L2,?_⟩,m.2.1,?_⟩;rintro c hc d hd rfl;exact PY c hd (ahh c (.inl hc));rintro c hc d hd rfl;rcases ay.1 hc with hc|hc;exact m.2.2 c hc c hd rfl;exact PY c hc (ahh c (.inr hd))
 have apA:i.toNat=k:=by omega
 rw[apA]at hk
 obtain⟨g2,IP⟩:=kJ w' g'.hw (.sl (.own (some t')) e (xs.set k x')) (b2::(fps.set k fh).flatten) (λc' hle Mz Bn=>⟨by rw[Mz,Bn];exact ado,λt ht=>by simp at ht;subst ht;have h0:=aiA t' rfl;exact⟨(hle.hdr t' h0.1).1,by rw[(hle.hdr t' h0.1).2];exact h0.2⟩⟩) apI (λc hc=>by
  show _<(uw _ _ _ _ _).heap.size/\_
  rw[kV]
  rcases bU.1 hc with rfl|hc
  ·exact⟨H0,.inl (by rw[D0];simp)⟩
  ·rcases(L1 c).1 hc with h|h
   ·have:c∈f2:=by rw[D0];simp[h]
    exact⟨(ml.ff c _ (zT c this)).1,.inl this⟩
   ·exact⟨(ml.ff c _ (UK c h)).1,.inr (by rw[UK c h];rfl)⟩)
  ⟨rfl,rfl,rfl,by show _<=(uw _ _ _ _ _).heap.size;rw[kV];exact bc _,λc _ hc=>WE c (λe=>hc (.inr (by rw[D0,e];simp)))⟩ (λ_ _ _ _ _=>rfl)
 refine⟨undef,_,_,.inr ⟨rfl,dD⟩,?_,hk⟩;rw[hd];exact⟨g2,IP⟩
theorem Qo {E:Env}(hE:iV P E.ty){o:Oper}{p x:Operand}(hd:o.dst=none)(ho:o.op=.store T p x)(h:mM C st a w){K:AS->ar R}{ep t:Nat}{y:e.D}{i:Int}{st':AS}(hT:iC E.ty T=some sh)(hp:st.rd p=.val false [.Cg (.loc ep (some (rt,t))) e y i off])(sI:st.take x=(.val gg vs,st'))(hlen:vs.length=sh.ct.size)(gv:off+sh.ct.size<=e.size)(hk:st'.oG rt t e i off vs K=some r):mq P C o a w K r:=by
 obtain⟨g,hg⟩:=h;have uR:=hg.rd p;rw[hp]at uR;obtain⟨_,b,ob,hv,_,_,H5⟩:=dM uR;obtain⟨_,n,o0,len,cap,uQ,hrt,Jm,hob⟩:=H5 rt t rfl;obtain⟨g',⟨IT,Br,JI,_⟩,ml⟩:=hg.ae9 x;rw[sI]at ml;unfold AS.oG at hk;split at hk;rename_i t' e' xs gI;split at hk;rename_i hee;subst hee;split at hk
 ·rename_i htt
  subst htt
  simp only at hk
  cases Ej:idx xs i with
  |none=>rw[Ej]at hk;simp[aa]at hk
  |some x0=>
  rw[Ej]at hk
  simp only[aa]at hk
  split at hk
  ·rename_i x' Zu
   obtain⟨n',Ae,WJ⟩:=Oc Ej
   have IQ:n'=n:=by omega
   subst IQ
   obtain⟨v0,f2,QW,eK,B6,zT,kJ⟩:=ml.Td rt gI
   have QW: .slice (some ⟨b,o0,none⟩) len cap=v0:=by have h1:=QW t' rfl;have h2:g.hdr t'=.slice (some ⟨b,o0,none⟩) len cap:=hrt;rw[h1,JI,h2]
   obtain⟨b2,o2,T6,arr,T',fr,f1,fx,f3,L3,iZ,qf,sD,H3,B5,Dt⟩:=ael eK WJ
   rw[<-QW]at L3
   simp only[Value.slice.injEq,aZ,Addr.mk.injEq]at L3
   obtain⟨⟨rfl,rfl,_⟩,_⟩:=L3
   obtain⟨fh,⟨us,dU,WH⟩,L2,UK⟩:=ml.hands 0 _ _ rfl
   have hul:=WH.length
   have agF:off+us.length<=e'.size:=by omega
   have aaJ:(o0+n'*e'.size)+e'.size<=arr.size:=by rw[bZ,dL]at sD;omega
   have adu:=rN (c:=cv C g' st' w) H3
   obtain⟨k1,k2,k3,hkx,r1,r2,r3⟩:=adu.mid off us.length
   have aie:=B6
   rw[B5]at aie
   have sr:=cJ.1 aie
   have PY:∀c∈fh,c∉f2:=by intro c hc hm;have h1:=UK c hc;rw[zT c hm]at h1;cases rt<;>cases h1
   let w':=uw w b (ef arr ((o0+n'*e'.size)+off) us) T' fr
   have H0:=lE iZ
   have WE:∀c,c≠b->w'.heap[c]?=w.heap[c]?:=λc hc=>mf hc
   have ahy:∀u∈us,u.oneCell'=true:=by
    have JN:bn (cv C g' st' w) (((arr.toList.drop (o0+n'*e'.size)).take e'.size).take off++us++((arr.toList.drop (o0+n'*e'.size)).take e'.size).drop (off+us.length))
     (cY (cellsOf e' (.own none) x0) off vs) (k1++fh++k3):=by
     have e2:cY (cellsOf e' (.own none) x0) off vs=(cellsOf e' (.own none) x0).take off++vs++(cellsOf e' (.own none) x0).drop (off+us.length):=by simp only[cY];rw[hul]
     rw[e2]
     exact(r1.append WH).append r3
    obtain⟨q1,q2,hq,XD,XE⟩:=nK JN Zu;have ain:(((arr.toList.drop (o0+n'*e'.size)).take e'.size).take off++us++((arr.toList.drop (o0+n'*e'.size)).take e'.size).drop (off+us.length)).length=e'.size:=by rw[JN.length,Is (by rw[ks];omega),ks]
    rw[bI (by omega)]at XD;intro u hu;exact dY.mD XD u (by simp[hu])
   have UQ:=E8 (P:=P) (w:=w) (hE T sh hT) b ((o0+n'*e'.size)+off) dU (by omega) ahy iZ qf
   have dD:(execOp a.eval o).run P w=.ok .skip w':=by simp only[execOp,ho,hv,Instr.storeAt,Instr.sureAddr,Sem.run_bind,Sem.run_pure,Result.andThen_ok];show((storeVar T ⟨b,ob+off,none⟩ (a.eval x)).run P w).andThen _=_;rw[hob,UQ];rfl
   have hle:(cv C g' st' w).Le ⟨g'.hw,g'.β,C.A,g'.hdr,kO st',st'.ep+1,fY st',w'⟩:=by
    refine⟨rfl,λ_ ht=>⟨ht,rfl⟩,λk c o u hA hu=>?_,Nat.le_succ _,λ_ hs=>⟨hs,rfl⟩,λhe=>absurd he (Nat.succ_ne_self _)⟩;have D2:c≠b:=by rintro rfl;exact ml.Lf (zT c (by rw[B5];simp)) k o hA
    rw[World.cell?_of_block (a:=⟨c,o,none⟩) (WE c D2)];exact hu
   have aik:∀c∈fx,c≠b:=by rintro c hc rfl;exact sr.1 (by simp[hc])
   have JN:bn ⟨g'.hw,g'.β,C.A,g'.hdr,kO st',st'.ep+1,fY st',w'⟩
    (((ef arr ((o0+n'*e'.size)+off) us).toList.drop (o0+n'*e'.size)).take e'.size) (cY (cellsOf e' (.own none) x0) off vs) (k1++fh++k3):=by
    have e2:cY (cellsOf e' (.own none) x0) off vs=(cellsOf e' (.own none) x0).take off++vs++(cellsOf e' (.own none) x0).drop (off+us.length):=by simp only[cY];rw[hul]
    rw[e2,Ke agF aaJ]
    refine((r1.mono hle (λc hc=>⟨WE c (aik c (by rw[hkx];simp[hc])),rfl⟩)).append
     (WH.mono hle (λc hc=>⟨WE c (λe=>PY c hc (by rw[B5,e];simp)),rfl⟩))).append
     (r3.mono hle (λc hc=>⟨WE c (aik c (by rw[hkx];simp[hc])),rfl⟩))
   obtain⟨q1,q2,hq,XD,XE⟩:=nK JN Zu
   have ain:(((ef arr ((o0+n'*e'.size)+off) us).toList.drop (o0+n'*e'.size)).take e'.size).length=e'.size:=by rw[JN.length,Is (by rw[ks];omega),ks]
   rw[cP (by omega)]at XE
   have adr:q2=[]:=XE
   subst adr
   rw[bI (by omega)]at XD
   rw[bt]at hq
   have ado:=Dt w' us off x' q1 agF (xA H0) (λc hc=>WE c (λe=>sr.1 (by rw[<-e];rcases ay.1 hc with k|k<;>simp[k]))) XD
   have Ek:∀c∈b::(f1++q1++f3),c∈f2\/c∈fh:=by intro c hc;rw[<-hq]at hc;simp only[bU,ay]at hc;rw[B5,hkx];simp only[bU,ay];rcases hc with hc|((hc|((hc|hc)|hc))|hc)<;>simp[hc]
   have El:(b::(f1++q1++f3)).Nodup:=by
    have hx2:=sr.2;rw[hkx]at hx2;rw[aO]at hx2;have m1:=aB.1 hx2;have m2:=aB.1 m1.2.1;have m2a:=m2.1;rw[aO]at m2a;have m3:=aB.1 m2a;have m4:=aB.1 m3.2.1;have inx:∀c,(c∈f1\/c∈k1\/c∈k3\/c∈f3)->c∈f2:=by intro c hc;rw[B5,hkx];simp only[bU,ay];rcases hc with hc|hc|hc|hc<;>simp[hc]
    rw[<-hq];refine cJ.2 ⟨λhm=>?_,?_⟩;simp only[ay]at hm;rcases hm with(hm|((hm|hm)|hm))|hm;exact sr.1 (by simp[hm]);exact sr.1 (by rw[hkx];simp[hm]);exact PY b hm (by rw[B5];simp);exact sr.1 (by rw[hkx];simp[hm]);exact sr.1 (by simp[hm]);rw[aO];refine aB.2 ⟨m1.1,aB.2 ⟨?_,m2.2.1,?_⟩,?_⟩;rw[aO];refine aB.2 ⟨m3.1,aB.2 ⟨L2,m4.2.1,?_⟩,?_⟩;rintro c hc d hd rfl;exact PY c hc (inx c (by simp[hd]));rintro c hc d hd rfl;rcases ay.1 hd with hd|hd;exact PY c hd (inx c (by simp[hc]));exact m3.2.2 c hc c (aX _ hd) rfl;rintro c hc d hd rfl;simp only[ay]at hc;rcases hc with(hc|hc)|hc;exact m2.2.2 c (by simp[hc]) c hd rfl;exact PY c hc (inx c (by simp[hd]));exact m2.2.2 c (by simp[hc]) c hd rfl;rintro c hc d hd rfl;simp only[ay]at hd;rcases hd with((hd|hd)|hd)|hd;exact m1.2.2 c hc c (by simp[hd]) rfl;exact PY c hd (inx c (by simp[hc]));exact m1.2.2 c hc c (by simp[hd]) rfl;exact m1.2.2 c hc c (by simp[hd]) rfl
   have ahf:Fr (λc=>cX (g'.dE c)\/c∈f2) w w':=⟨rfl,rfl,rfl,by show _<=(uw _ _ _ _ _).heap.size;rw[kV];exact bc _,λc _ hc=>WE c (λe=>hc (.inr (by rw[B5,e];simp)))⟩
   obtain⟨g2,IP⟩:=kJ w' g'.hw (xs.set n' x') (b::(f1++q1++f3)) ado El (λc hc=>by rcases Ek c hc with k|k;exact⟨by show _<(uw _ _ _ _ _).heap.size;rw[kV];exact(ml.ff c _ (zT c k)).1,.inl k⟩;exact⟨by show _<(uw _ _ _ _ _).heap.size;rw[kV];exact(ml.ff c _ (UK c k)).1,.inr (by rw[UK c k];rfl)⟩) ahf (λ_ _ _ _ _=>rfl)
   refine⟨undef,_,_,.inr ⟨rfl,dD⟩,?_,hk⟩
   rw[hd]
   have adl:i.toNat=n':=by omega
   rw[adl]
   exact⟨g2,IP⟩
  ·cases hk
 cases hk;cases hk;rename_i t' i' q e' xs gI;split at hk;rename_i hee;subst hee;split at hk;rename_i hc;obtain⟨rfl,rfl⟩:=hc;simp only at hk;cases Ej:aaK xs i' i with|none=>rw[Ej]at hk;simp[aa]at hk|some x0=>obtain⟨rfl,aqb⟩:=aaL Ej;rw[Ej]at hk;simp only[aa]at hk;split at hk;rename_i x' Zu;exact PW hE hd ho hT hlen ml (by rw[hv,hob,dF]) (by rw[JI];exact hrt) uQ gI Zu hk;cases hk
 cases hk;cases hk;cases hk
theorem YL {E:Env}(hE:iV P E.ty){o:Oper}{p x:Operand}(hd:o.dst=none)(ho:o.op=.store T p x)(h:mM C st a w){K:AS->ar R}(hk:xy E T p x st K=some r):mq P C o a w K r:=by unfold xy at hk;split at hk;rename_i sh s off hT hp;split at hk;rename_i gg vs st' sI;split at hk;rename_i cs ji;split at hk;rename_i hlen;split at hk;rename_i gv;exact Qm hE hd ho h hT hp sI ji hlen.1 hlen.2 gv hk;cases hk;cases hk;cases hk;cases hk;rename_i sh ep rt t e y i off hT hp;split at hk;rename_i gg vs st' sI;split at hk;rename_i hc;exact Qo hE hd ho h hT hp sI hc.1 hc.2 hk;cases hk;cases hk;cases hk
end Go.Dn
