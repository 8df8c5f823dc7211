import Derived.Test.YtfbhfnniblfpbaaGreatDnOps2
/- Part 3: an element of an owned slice is written. -/
namespace Go.Dn
open Go.RowKit
variable {P:Program} {C:Ctx} {st:AS} {a:Act} {w:World} {R:Type} {r:R}
variable {arr:Array Value} {gg:Bool} {e:CT} {off:Nat} {rt:ka} {sh:Shape} {T:TypeId} {vs:au AC} {us:gP}
theorem zb {o:Nat}(h:o+us.length<=arr.size)(j:Nat): (ec arr o us).toList[j]?=if o<=j/\j<o+us.length then us[j-o]? else arr.toList[j]?:=by
 rw[wA us arr o h];have hl:(arr.toList.take o).length=o:=by rw[bn];simp;omega
 by_cases h1:j<o;rw[mG,aP,bA (by omega),cP,aF h1];by_cases h2:j<o+us.length;rw[zip,aP,bq (by omega),hl,bA (by omega)];rw[mG,bq (by rw[ar];omega),ar,hl,bH];congr 1;omega
theorem ja {l:gP}(p n j:Nat):((l.drop p).take n)[j]?=if j<n then l[p+j]? else none:=by rw[cP];split;rw[bH];rfl
theorem H4 {o0 size n i:Nat}(P3:off+us.length<=size)(hn:o0+(n+1)*size<=arr.size)(hi:i≠n): ((ec arr (o0+n*size+off) us).toList.drop (o0+i*size)).take size=(arr.toList.drop (o0+i*size)).take size:=by
 have Bm:o0+n*size+size<=arr.size:=by rw[cl,ei]at hn;omega
 apply cI;intro j;rw[ja,ja];split;rename_i hj;rw[zb (by omega),aE];intro hc;rcases Nat.lt_or_gt_of_ne hi with h|h;have:(i+1)*size<=n*size:=cA _ h;rw[cl,ei]at this;omega;have:(n+1)*size<=i*size:=cA _ h;rw[cl,ei]at this;omega;rfl
theorem JS {p size:Nat}(P3:off+us.length<=size)(Bm:p+size<=arr.size): ((ec arr (p+off) us).toList.drop p).take size= ((arr.toList.drop p).take size).take off++us++((arr.toList.drop p).take size).drop (off+us.length):=by
 have hl:((arr.toList.drop p).take size).length=size:=by simp;omega
 have zH:(((arr.toList.drop p).take size).take off).length=off:=by rw[bn,hl];omega
 apply cI;intro j;rw[ja];by_cases hj:j<size;rw[aF hj,zb (by omega)];by_cases h1:j<off;rw[mG,aP,bA (by omega),cP,aF h1,ja,aF hj];by_cases h2:j<off+us.length;rw[zip,aP,bq (by omega),zH,bA (by omega)];congr 1;omega;rw[mG,bq (by rw[ar];omega),ar,zH,bH,ja,show off+us.length+(j-(off+us.length))=j by omega,aF hj];rw[aE hj,bE];simp only[ar,zH,bh,hl];omega
theorem aee {hw:Nat->Nat}{w:World}{v:Value}{xs:au e.D}{Zr:dI}(h:dW hw w (.sl e) [v] xs Zr){n:Nat}{x:e.D}(hx:xs[n]?=some x): ∃b o0 cap arr T fr f1 fx f3,v=.slice (some ⟨b,o0,none⟩) xs.length cap/\w.heap[b]?=some (.cells arr T fr)/\pL arr fr/\o0+(n+1)*e.size<=arr.size/\ dW hw w e ((arr.toList.drop (o0+n*e.size)).take e.size) x fx/\Zr=b::(f1++fx++f3)/\ ∀(w':World)(us:gP)(off:Nat)(x':e.D)(fx':dI),off+us.length<=e.size->w'.heap[b]?=some (.cells (ec arr (o0+n*e.size+off) us) T fr)-> (∀b'∈f1++f3,w'.heap[b']?=w.heap[b']?)->dW hw w' e (((ec arr (o0+n*e.size+off) us).toList.drop (o0+n*e.size)).take e.size) x' fx'-> dW hw w' (.sl e) [v] (xs.set n x') (b::(f1++fx'++f3)):=by
 obtain⟨u,hu,h⟩:=h;simp at hu;subst hu;have I3:n<xs.length:=(aD.1 hx).1;rcases h with⟨⟨_,rfl⟩,rfl,rfl⟩|⟨b,o0,cap,arr,T,fr,fps,rfl,hb,qG,hs,hc,hh,rfl,hl,hr⟩;simp at hx;have M0:fps[n]?=some fps[n]:=al (by omega);have HI:=Ch M0;have hm:o0+(n+1)*e.size<=arr.size:=by rw[hs];exact Nat.add_le_add_left (cA _ (by omega)) _
 refine⟨b,o0,cap,arr,T,fr,(fps.take n).flatten,fps[n],(fps.drop (n+1)).flatten,rfl,hb,qG,hm,hr n x _ hx M0,by rw[HI.1],?_⟩;intro w' us off x' fx' P3 gn hk eE;refine⟨_,rfl,.inr ⟨b,o0,cap,ec arr (o0+n*e.size+off) us,T,fr,fps.set n fx',by simp,gn,λj hj=>qG j (by rwa[ik]at hj),by rw[ik];exact hs,by simpa using hc,by simpa using hh,by rw[HI.2],by simp[hl],?_⟩⟩;intro i y f hy hf;by_cases tU:i=n;subst tU;rw[bk]at hy hf;simp only[bN,I3]at hy;simp only[bN]at hf;rw[zip]at hf;simp at hy hf;subst hy;subst hf;exact eE;rw[aN (cD tU)]at hy hf;rw[H4 P3 hm tU];refine dW.mono (hr i y f hy hf) (λb' adf=>⟨hk b' ?_,rfl⟩);have N9:i<fps.length:=(aD.1 hf).1;have hfi:fps[i]=f:=by rw[al N9]at hf;simpa using hf
 rcases Nat.lt_or_gt_of_ne tU with gq|hgt;refine bj _ (List.mem_flatten.2 ⟨f,?_,adf⟩);rw[List.mem_take_iff_getElem];exact⟨i,by omega,hfi⟩;refine ba _ (List.mem_flatten.2 ⟨f,?_,adf⟩);rw[List.mem_drop_iff_getElem];exact⟨i-(n+1),by omega,by rw[<-hfi];congr 1;omega⟩
theorem Oe {α:Type}{xs:au α}{i:Int}{x:α}(h:idx xs i=some x):∃n:Nat,i=n/\xs[n]?=some x:=by cases i with|ofNat n=>exact⟨n,rfl,h⟩|negSucc n=>simp[idx]at h
theorem P0 {E:Env}(hE:jf P E.ty){o:Oper}{p x:Operand}(hd:o.dst=none)(ho:o.op=.store T p x){K:AS->aw R}{t':Nat}{i:Int}{st':AS}{g':Gh}(hT:iH E.ty T=some sh)(hlen:vs.length=sh.ct.size)(mI:dk C g' st' a w [(a.eval x,.val gg vs)]){b o0 len cap n:Nat}{q:aw Nat}{xs:au e.D}{x':e.D}(hv:a.eval p=.pointer (some ⟨b,o0+n*e.size,none⟩))(hrt:g'.hdr t'=.slice (some ⟨b,o0,none⟩) len cap)(tU:i=n)(gE:st'.ew rt=some (.sl (.eQ (some t') i q) e xs))(Zy:iD e vs=some (x',[]))(hk:K {st'.eI rt (.sl (.own (some t')) e (xs.set i.toNat x'))with ep:=st'.ep+1}=some r):mJ P C o a w K r:=by
 obtain⟨v0,f2,dx,B8,zH,la⟩:=mI.Tn rt (by simp) gE;obtain⟨_,⟨k,hik,eE⟩,aip⟩:=dx;have hkn:k=n:=by omega
 subst hkn;obtain⟨b2,o2,Ug,arr,T',fr,fps,LU,jh,qG,hs,hc,hh,Hh,hl,hkl,hfk,hr⟩:=eE;have jh:w.heap[b2]?=some (.cells arr T' fr):=jh;have h1:v0=g'.hdr t':=(aip t' rfl).2;rw[hrt,LU]at h1;simp only[Value.slice.injEq,aZ,Addr.mk.injEq]at h1;obtain⟨⟨rfl,rfl,_⟩,_⟩:=h1;obtain⟨fh,⟨us,dM,WN⟩,LR,UK⟩:=mI.hands 0 _ _ rfl;obtain⟨q1,q2,hq,XE,XF⟩:=oc WN Zy;have UH:us.drop e.size=[]:=by cases hd0:us.drop e.size with|nil=>rfl|cons _ _=>rw[hd0]at XF;exact XF.elim
 rw[UH]at XF;have adu:q2=[]:=XF;subst adu;rw[br]at hq;subst hq;have P6:us.take e.size=us:=by have:=cf e.size us;rw[UH,br]at this;exact this
 rw[P6]at XE;have hul:us.length=e.size:=dW.length XE;have sR:o2+(k+1)*e.size<=arr.size:=by rw[hs];exact Nat.add_le_add_left (cA _ (by omega)) _
 have aaO:o2+k*e.size+e.size<=arr.size:=by rw[cl,ei]at sR;omega
 let w':=uL w b2 (ec arr (o2+k*e.size+0) us) T' fr;have HP:=lQ jh;have QX:∀c,c≠b2->w'.heap[c]?=w.heap[c]?:=λc hc=>mF hc;have apl:=WN.length;have UR:=E1 (P:=P) (w:=w) (hE T sh hT) b2 (o2+k*e.size+0) dM (by omega) (λu hu=>dW.mU XE u hu) jh qG;have dA:(execOp a.eval o).run P w=.ok .skip w':=by simp only[execOp,ho,hv,Instr.storeAt,Instr.sureAddr,Sem.run_bind,Sem.run_pure,Result.andThen_ok];show((storeVar T ⟨b2,o2+k*e.size+0,none⟩ (a.eval x)).run P w).andThen _=_;rw[UR];rfl
 have HI:=Ch hfk;have sO:b2∉fps.flatten:=by rw[Hh]at B8;exact(cJ.1 B8).1
 have hnf:fps.flatten.Nodup:=by rw[Hh]at B8;exact(cJ.1 B8).2
 have P2:∀c∈fh,c∉f2:=by intro c hc hm;have h1:=UK c hc;rw[zH c hm]at h1;cases rt<;>cases h1
 have ah4:∀c∈fh,c≠b2:=λc hc e=>P2 c hc (by rw[Hh,e];simp);have LQ:∀c,c∈(fps.set k fh).flatten↔c∈fps.flatten\/c∈fh:=by intro c;rw[HI.2,HI.1];simp only[ay,List.not_mem_nil,or_false];constructor;rintro((h|h)|h)<;>simp[h];rintro((h|h)|h)<;>simp[h]
 have adr:dW g'.hw w' (.sl e) [v0] (xs.set k x') (b2::(fps.set k fh).flatten):=by
  refine⟨v0,rfl,.inr ⟨b2,o2,Ug,ec arr (o2+k*e.size+0) us,T',fr,fps.set k fh,by rw[LU];simp,xK HP,λj hj=>qG j (by rwa[ik]at hj),by rw[ik];exact hs,by simpa using hc,by rw[aJ];exact hh,rfl,by simp[hl],?_⟩⟩;intro j y f hy hf;by_cases hjk:j=k;subst hjk;rw[bk]at hy hf;simp only[bN,hkl]at hy;simp only[bN]at hf;rw[zip]at hf;simp at hy hf;subst hy;subst hf;rw[JS (by omega) aaO];have e1:((arr.toList.drop (o2+j*e.size)).take e.size).take 0++us++((arr.toList.drop (o2+j*e.size)).take e.size).drop (0+us.length)=us:=by rw[List.take_zero,bK,cK (by simp;omega),br]
  rw[e1];exact dW.mono XE (λc hc=>⟨QX c (ah4 c hc),rfl⟩);rw[aN (cD hjk)]at hy hf;rw[H4 (by omega) sR hjk];refine dW.mono (hr j y f hjk hy hf) (λc hc=>⟨QX c (λe0=>sO ?_),rfl⟩);rw[<-e0];exact List.mem_flatten.2 ⟨f,cL hf,hc⟩
 have aoW:(b2::(fps.set k fh).flatten).Nodup:=by
  refine cJ.2 ⟨λhm=>?_,?_⟩;rcases(LQ b2).1 hm with h|h;exact sO h;exact ah4 b2 h rfl;rw[HI.2];rw[HI.1,br]at hnf;have m:=aB.1 hnf;have ag6:∀c,c∈(fps.take k).flatten\/c∈(fps.drop (k+1)).flatten->c∈f2:=by intro c hc;rw[Hh,HI.1];rcases hc with hc|hc<;>simp[hc]
  refine aB.2 ⟨aB.2 ⟨m.1,LR,?_⟩,m.2.1,?_⟩;rintro c hc d hd rfl;exact P2 c hd (ag6 c (.inl hc));rintro c hc d hd rfl;rcases ay.1 hc with hc|hc;exact m.2.2 c hc c hd rfl;exact P2 c hc (ag6 c (.inr hd))
 have aoP:i.toNat=k:=by omega
 rw[aoP]at hk
 obtain⟨g2,IA⟩:=la w' g'.hw (.sl (.own (some t')) e (xs.set k x')) (b2::(fps.set k fh).flatten) (λc' hle MD Bi=>⟨by rw[MD,Bi];exact adr,λt ht=>by simp at ht;subst ht;have h0:=aip t' rfl;exact⟨(hle.hdr t' h0.1).1,by rw[(hle.hdr t' h0.1).2];exact h0.2⟩⟩) aoW (λc hc=>by
  show _<(uL _ _ _ _ _).heap.size/\_
  rw[ly]
  rcases cg.1 hc with rfl|hc
  ·exact⟨HP,.inl (by rw[Hh];simp)⟩
  ·rcases(LQ c).1 hc with h|h
   ·have:c∈f2:=by rw[Hh];simp[h]
    exact⟨(mI.fa c _ (zH c this)).1,.inl this⟩
   ·exact⟨(mI.fa c _ (UK c h)).1,.inr (by rw[UK c h];rfl)⟩)
  ⟨rfl,rfl,rfl,by show _<=(uL _ _ _ _ _).heap.size;rw[ly];exact aX _,λc _ hc=>QX c (λe=>hc (.inr (by rw[Hh,e];simp)))⟩ (λ_ _ _ _ _=>rfl)
 refine⟨undef,_,_,.inr ⟨rfl,dA⟩,?_,hk⟩;rw[hd];exact⟨g2,IA⟩
theorem Qt {E:Env}(hE:jf P E.ty){o:Oper}{p x:Operand}(hd:o.dst=none)(ho:o.op=.store T p x)(h:nb C st a w){K:AS->aw R}{ep t:Nat}{y:e.D}{i:Int}{st':AS}(hT:iH E.ty T=some sh)(hp:st.rd p=.val false [.Cg (.loc ep (some (rt,t))) e y i off])(sX:st.take x=(.val gg vs,st'))(hlen:vs.length=sh.ct.size)(gk:off+sh.ct.size<=e.size)(hk:st'.pc rt t e i off vs K=some r):mJ P C o a w K r:=by
 obtain⟨g,hg⟩:=h;have vo:=hg.rd p;rw[hp]at vo;obtain⟨_,b,ob,hv,_,_,HT⟩:=dE vo;obtain⟨_,n,o0,len,cap,tU,hrt,I3,hob⟩:=HT rt t rfl;obtain⟨g',⟨ID,Bl,Jo,_⟩,mI⟩:=hg.aeV x;rw[sX]at mI;unfold AS.pc at hk;split at hk;rename_i t' e' xs gE;split at hk;rename_i hee;subst hee;split at hk
 ·rename_i htt
  subst htt
  simp only at hk
  cases D7:idx xs i with
  |none=>rw[D7]at hk;simp[aa]at hk
  |some x0=>
  rw[D7]at hk
  simp only[aa]at hk
  split at hk
  ·rename_i x' Zy
   obtain⟨n',Bm,WO⟩:=Oe D7
   have IB:n'=n:=by omega
   subst IB
   obtain⟨v0,f2,QZ,eE,B8,zH,la⟩:=mI.To rt gE
   have QZ: .slice (some ⟨b,o0,none⟩) len cap=v0:=by have h1:=QZ t' rfl;have h2:g.hdr t'=.slice (some ⟨b,o0,none⟩) len cap:=hrt;rw[h1,Jo,h2]
   obtain⟨b2,o2,Ug,arr,T',fr,f1,fx,f3,LU,jh,qG,sR,HR,B7,Eb⟩:=aee eE WO
   rw[<-QZ]at LU
   simp only[Value.slice.injEq,aZ,Addr.mk.injEq]at LU
   obtain⟨⟨rfl,rfl,_⟩,_⟩:=LU
   obtain⟨fh,⟨us,dM,WN⟩,LR,UK⟩:=mI.hands 0 _ _ rfl
   have hul:=WN.length
   have agx:off+us.length<=e'.size:=by omega
   have aaO:(o0+n'*e'.size)+e'.size<=arr.size:=by rw[cl,ei]at sR;omega
   have adx:=sa (c:=cq C g' st' w) HR
   obtain⟨k1,k2,k3,hkx,r1,r2,r3⟩:=adx.mid off us.length
   have ah3:=B8
   rw[B7]at ah3
   have sO:=cJ.1 ah3
   have P2:∀c∈fh,c∉f2:=by intro c hc hm;have h1:=UK c hc;rw[zH c hm]at h1;cases rt<;>cases h1
   let w':=uL w b (ec arr ((o0+n'*e'.size)+off) us) T' fr
   have HP:=lQ jh
   have QX:∀c,c≠b->w'.heap[c]?=w.heap[c]?:=λc hc=>mF hc
   have ahn:∀u∈us,u.oneCell'=true:=by
    have Jt:bp (cq C g' st' w) (((arr.toList.drop (o0+n'*e'.size)).take e'.size).take off++us++((arr.toList.drop (o0+n'*e'.size)).take e'.size).drop (off+us.length))
     (cS (cellsOf e' (.own none) x0) off vs) (k1++fh++k3):=by
     have e2:cS (cellsOf e' (.own none) x0) off vs=(cellsOf e' (.own none) x0).take off++vs++(cellsOf e' (.own none) x0).drop (off+us.length):=by simp only[cS];rw[hul]
     rw[e2]
     exact(r1.append WN).append r3
    obtain⟨q1,q2,hq,XE,XF⟩:=oc Jt Zy;have aib:(((arr.toList.drop (o0+n'*e'.size)).take e'.size).take off++us++((arr.toList.drop (o0+n'*e'.size)).take e'.size).drop (off+us.length)).length=e'.size:=by rw[Jt.length,Ic (by rw[kC];omega),kC]
    rw[bB (by omega)]at XE;intro u hu;exact dW.mU XE u (by simp[hu])
   have UR:=E1 (P:=P) (w:=w) (hE T sh hT) b ((o0+n'*e'.size)+off) dM (by omega) ahn jh qG
   have dA:(execOp a.eval o).run P w=.ok .skip w':=by simp only[execOp,ho,hv,Instr.storeAt,Instr.sureAddr,Sem.run_bind,Sem.run_pure,Result.andThen_ok];show((storeVar T ⟨b,ob+off,none⟩ (a.eval x)).run P w).andThen _=_;rw[hob,UR];rfl
   have hle:(cq C g' st' w).Le ⟨g'.hw,g'.β,C.A,g'.hdr,ll st',st'.ep+1,fX st',w'⟩:=by
    refine⟨rfl,λ_ ht=>⟨ht,rfl⟩,λk c o u hA hu=>?_,Nat.le_succ _,λ_ hs=>⟨hs,rfl⟩,λhe=>absurd he (Nat.succ_ne_self _)⟩;have Ea:c≠b:=by rintro rfl;exact mI.K1 (zH c (by rw[B7];simp)) k o hA
    rw[World.cell?_of_block (a:=⟨c,o,none⟩) (QX c Ea)];exact hu
   have ah8:∀c∈fx,c≠b:=by rintro c hc rfl;exact sO.1 (by simp[hc])
   have Jt:bp ⟨g'.hw,g'.β,C.A,g'.hdr,ll st',st'.ep+1,fX st',w'⟩
    (((ec arr ((o0+n'*e'.size)+off) us).toList.drop (o0+n'*e'.size)).take e'.size) (cS (cellsOf e' (.own none) x0) off vs) (k1++fh++k3):=by
    have e2:cS (cellsOf e' (.own none) x0) off vs=(cellsOf e' (.own none) x0).take off++vs++(cellsOf e' (.own none) x0).drop (off+us.length):=by simp only[cS];rw[hul]
    rw[e2,JS agx aaO]
    refine((r1.mono hle (λc hc=>⟨QX c (ah8 c (by rw[hkx];simp[hc])),rfl⟩)).append
     (WN.mono hle (λc hc=>⟨QX c (λe=>P2 c hc (by rw[B7,e];simp)),rfl⟩))).append
     (r3.mono hle (λc hc=>⟨QX c (ah8 c (by rw[hkx];simp[hc])),rfl⟩))
   obtain⟨q1,q2,hq,XE,XF⟩:=oc Jt Zy
   have aib:(((ec arr ((o0+n'*e'.size)+off) us).toList.drop (o0+n'*e'.size)).take e'.size).length=e'.size:=by rw[Jt.length,Ic (by rw[kC];omega),kC]
   rw[cK (by omega)]at XF
   have adu:q2=[]:=XF
   subst adu
   rw[bB (by omega)]at XE
   rw[br]at hq
   have adr:=Eb w' us off x' q1 agx (xK HP) (λc hc=>QX c (λe=>sO.1 (by rw[<-e];rcases ay.1 hc with k|k<;>simp[k]))) XE
   have D8:∀c∈b::(f1++q1++f3),c∈f2\/c∈fh:=by intro c hc;rw[<-hq]at hc;simp only[cg,ay]at hc;rw[B7,hkx];simp only[cg,ay];rcases hc with hc|((hc|((hc|hc)|hc))|hc)<;>simp[hc]
   have D9:(b::(f1++q1++f3)).Nodup:=by
    have hx2:=sO.2;rw[hkx]at hx2;rw[aP]at hx2;have m1:=aB.1 hx2;have m2:=aB.1 m1.2.1;have m2a:=m2.1;rw[aP]at m2a;have m3:=aB.1 m2a;have m4:=aB.1 m3.2.1;have inx:∀c,(c∈f1\/c∈k1\/c∈k3\/c∈f3)->c∈f2:=by intro c hc;rw[B7,hkx];simp only[cg,ay];rcases hc with hc|hc|hc|hc<;>simp[hc]
    rw[<-hq];refine cJ.2 ⟨λhm=>?_,?_⟩;simp only[ay]at hm;rcases hm with(hm|((hm|hm)|hm))|hm;exact sO.1 (by simp[hm]);exact sO.1 (by rw[hkx];simp[hm]);exact P2 b hm (by rw[B7];simp);exact sO.1 (by rw[hkx];simp[hm]);exact sO.1 (by simp[hm]);rw[aP];refine aB.2 ⟨m1.1,aB.2 ⟨?_,m2.2.1,?_⟩,?_⟩;rw[aP];refine aB.2 ⟨m3.1,aB.2 ⟨LR,m4.2.1,?_⟩,?_⟩;rintro c hc d hd rfl;exact P2 c hc (inx c (by simp[hd]));rintro c hc d hd rfl;rcases ay.1 hd with hd|hd;exact P2 c hd (inx c (by simp[hc]));exact m3.2.2 c hc c (ba _ hd) rfl;rintro c hc d hd rfl;simp only[ay]at hc;rcases hc with(hc|hc)|hc;exact m2.2.2 c (by simp[hc]) c hd rfl;exact P2 c hc (inx c (by simp[hd]));exact m2.2.2 c (by simp[hc]) c hd rfl;rintro c hc d hd rfl;simp only[ay]at hd;rcases hd with((hd|hd)|hd)|hd;exact m1.2.2 c hc c (by simp[hd]) rfl;exact P2 c hd (inx c (by simp[hc]));exact m1.2.2 c hc c (by simp[hd]) rfl;exact m1.2.2 c hc c (by simp[hd]) rfl
   have ag4:Fr (λc=>cQ (g'.dB c)\/c∈f2) w w':=⟨rfl,rfl,rfl,by show _<=(uL _ _ _ _ _).heap.size;rw[ly];exact aX _,λc _ hc=>QX c (λe=>hc (.inr (by rw[B7,e];simp)))⟩
   obtain⟨g2,IA⟩:=la w' g'.hw (xs.set n' x') (b::(f1++q1++f3)) adr D9 (λc hc=>by rcases D8 c hc with k|k;exact⟨by show _<(uL _ _ _ _ _).heap.size;rw[ly];exact(mI.fa c _ (zH c k)).1,.inl k⟩;exact⟨by show _<(uL _ _ _ _ _).heap.size;rw[ly];exact(mI.fa c _ (UK c k)).1,.inr (by rw[UK c k];rfl)⟩) ag4 (λ_ _ _ _ _=>rfl)
   refine⟨undef,_,_,.inr ⟨rfl,dA⟩,?_,hk⟩
   rw[hd]
   have ado:i.toNat=n':=by omega
   rw[ado]
   exact⟨g2,IA⟩
  ·cases hk
 cases hk;cases hk;rename_i t' i' q e' xs gE;split at hk;rename_i hee;subst hee;split at hk;rename_i hc;obtain⟨rfl,rfl⟩:=hc;simp only at hk;cases D7:aaP xs i' i with|none=>rw[D7]at hk;simp[aa]at hk|some x0=>obtain⟨rfl,apr⟩:=aaQ D7;rw[D7]at hk;simp only[aa]at hk;split at hk;rename_i x' Zy;exact P0 hE hd ho hT hlen mI (by rw[hv,hob,dC]) (by rw[Jo];exact hrt) tU gE Zy hk;cases hk
 cases hk;cases hk;cases hk
theorem YR {E:Env}(hE:jf P E.ty){o:Oper}{p x:Operand}(hd:o.dst=none)(ho:o.op=.store T p x)(h:nb C st a w){K:AS->aw R}(hk:xH E T p x st K=some r):mJ P C o a w K r:=by unfold xH at hk;split at hk;rename_i sh s off hT hp;split at hk;rename_i gg vs st' sX;split at hk;rename_i cs jq;split at hk;rename_i hlen;split at hk;rename_i gk;exact Qr hE hd ho h hT hp sX jq hlen.1 hlen.2 gk hk;cases hk;cases hk;cases hk;cases hk;rename_i sh ep rt t e y i off hT hp;split at hk;rename_i gg vs st' sX;split at hk;rename_i hc;exact Qt hE hd ho h hT hp sX hc.1 hc.2 hk;cases hk;cases hk;cases hk
end Go.Dn
