import Derived.Test.YtainmjjkipbciaaGreatDnOps2
/- Part 3: an element of an owned slice is written. -/
namespace Go.Dn
open Go.RowKit
variable {P:Program} {C:Ctx} {st:AS} {a:Act} {w:World} {R:Type} {r:R}
variable {arr:Array Value} {gg:Bool} {e:CT} {i:Int} {off:Nat} {rt:jW} {sh:Shape} {T:TypeId} {vs:aw AC} {us:ir}
theorem wi {o:Nat}(h:o+us.length<=arr.size)(j:Nat): (ew arr o us).toList[j]?=if o<=j/\j<o+us.length then us[j-o]? else arr.toList[j]?:=by
 rw[tQ us arr o h];have hl:(arr.toList.take o).length=o:=by rw[aZ];simp;omega
 by_cases h1:j<o;rw[lR,aP,bD (by omega),dA,aF h1];by_cases h2:j<o+us.length;rw[zip,aP,bq (by omega),hl,bD (by omega)];rw[lR,bq (by rw[ai];omega),ai,hl,bM];congr 1;omega
theorem iX {l:ir}(p n j:Nat):((l.drop p).take n)[j]?=if j<n then l[p+j]? else none:=by rw[dA];split;rw[bM];rfl
theorem DR {o0 size n i:Nat}(L8:off+us.length<=size)(hn:o0+(n+1)*size<=arr.size)(hi:i≠n): ((ew arr (o0+n*size+off) us).toList.drop (o0+i*size)).take size=(arr.toList.drop (o0+i*size)).take size:=by
 have BB:o0+n*size+size<=arr.size:=by rw[cA,eY]at hn;omega
 apply cz;intro j;rw[iX,iX];split;rename_i hj;rw[wi (by omega),aH];intro hc;rcases Nat.lt_or_gt_of_ne hi with h|h;have:(i+1)*size<=n*size:=cv _ h;rw[cA,eY]at this;omega;have:(n+1)*size<=i*size:=cv _ h;rw[cA,eY]at this;omega;rfl
theorem FM {p size:Nat}(L8:off+us.length<=size)(BB:p+size<=arr.size): ((ew arr (p+off) us).toList.drop p).take size= ((arr.toList.drop p).take size).take off++us++((arr.toList.drop p).take size).drop (off+us.length):=by
 have hl:((arr.toList.drop p).take size).length=size:=by simp;omega
 have xE:(((arr.toList.drop p).take size).take off).length=off:=by rw[aZ,hl];omega
 apply cz;intro j;rw[iX];by_cases hj:j<size;rw[aF hj,wi (by omega)];by_cases h1:j<off;rw[lR,aP,bD (by omega),dA,aF h1,iX,aF hj];by_cases h2:j<off+us.length;rw[zip,aP,bq (by omega),xE,bD (by omega)];congr 1;omega;rw[lR,bq (by rw[ai];omega),ai,xE,bM,iX,show off+us.length+(j-(off+us.length))=j by omega,aF hj];rw[aH hj,br];simp only[ai,xE,aL,hl];omega
theorem acy {hw:Nat->Nat}{w:World}{v:Value}{xs:aw e.D}{fp0:fg}(h:eZ hw w (.sl e) [v] xs fp0){n:Nat}{x:e.D}(hx:xs[n]?=some x): ∃b o0 cap arr T fr f1 fx f3,v=.slice (some ⟨b,o0,none⟩) xs.length cap/\w.heap[b]?=some (.cells arr T fr)/\oF arr fr/\o0+(n+1)*e.size<=arr.size/\ eZ hw w e ((arr.toList.drop (o0+n*e.size)).take e.size) x fx/\fp0=b::(f1++fx++f3)/\ ∀(w':World)(us:ir)(off:Nat)(x':e.D)(fx':fg),off+us.length<=e.size->w'.heap[b]?=some (.cells (ew arr (o0+n*e.size+off) us) T fr)-> (∀b'∈f1++f3,w'.heap[b']?=w.heap[b']?)->eZ hw w' e (((ew arr (o0+n*e.size+off) us).toList.drop (o0+n*e.size)).take e.size) x' fx'-> eZ hw w' (.sl e) [v] (xs.set n x') (b::(f1++fx'++f3)):=by
 obtain⟨u,hu,h⟩:=h;simp at hu;subst hu;have HJ:n<xs.length:=(aG.1 hx).1;rcases h with⟨⟨_,rfl⟩,rfl,rfl⟩|⟨b,o0,cap,arr,T,fr,fps,rfl,hb,qM,hs,hc,hh,rfl,hl,hr⟩;simp at hx;have RY:fps[n]?=some fps[n]:=al (by omega);have EL:=B8 RY;have hm:o0+(n+1)*e.size<=arr.size:=by rw[hs];exact Nat.add_le_add_left (cv _ (by omega)) _
 refine⟨b,o0,cap,arr,T,fr,(fps.take n).flatten,fps[n],(fps.drop (n+1)).flatten,rfl,hb,qM,hm,hr n x _ hx RY,by rw[EL.1],?_⟩;intro w' us off x' fx' L8 gM hk gE;refine⟨_,rfl,.inr ⟨b,o0,cap,ew arr (o0+n*e.size+off) us,T,fr,fps.set n fx',by simp,gM,λj hj=>qM j (by rwa[ik]at hj),by rw[ik];exact hs,by simpa using hc,by simpa using hh,by rw[EL.2],by simp[hl],?_⟩⟩;intro i y f hy hf;by_cases sv:i=n;subst sv;rw[bu]at hy hf;simp only[bP,HJ]at hy;simp only[bP]at hf;rw[zip]at hf;simp at hy hf;subst hy;subst hf;exact gE;rw[aR (cM sv)]at hy hf;rw[DR L8 hm sv];refine eZ.mono (hr i y f hy hf) (λb' amu=>⟨hk b' ?_,rfl⟩);have L6:i<fps.length:=(aG.1 hf).1;have hfi:fps[i]=f:=by rw[al L6]at hf;simpa using hf
 rcases Nat.lt_or_gt_of_ne sv with gW|hgt;refine bw _ (List.mem_flatten.2 ⟨f,?_,amu⟩);rw[List.mem_take_iff_getElem];exact⟨i,by omega,hfi⟩;refine bj _ (List.mem_flatten.2 ⟨f,?_,amu⟩);rw[List.mem_drop_iff_getElem];exact⟨i-(n+1),by omega,by rw[<-hfi];congr 1;omega⟩
theorem R9 {α:Type}{xs:aw α}{x:α}(h:idx xs i=some x):∃n:Nat,i=n/\xs[n]?=some x:=by cases i with|ofNat n=>exact⟨n,rfl,h⟩|negSucc n=>simp[idx]at h
theorem L0 {E:Env}(hE:ja P E.ty){o:Oper}{p x:Operand}(hd:o.dst=none)(ho:o.op=.store T p x){K:AS->ax R}{t':Nat}{bK:AS}{g':Gh}(hT:iQ E.ty T=some sh)(hlen:vs.length=sh.ct.size)(mX:dP C g' bK a w [(a.eval x,.val gg vs)]){b o0 len cap n:Nat}{q:ax Nat}{xs:aw e.D}{x':e.D}(hv:a.eval p=.pointer (some ⟨b,o0+n*e.size,none⟩))(hrt:g'.hdr t'=.slice (some ⟨b,o0,none⟩) len cap)(sv:i=n)(gI:bK.eL rt=some (.sl (.fa (some t') i q) e xs))(hof:kD e vs=some (x',[]))(hk:K {bK.eR rt (.sl (.own (some t')) e (xs.set i.toNat x'))with ep:=bK.ep+1}=some r):lS P C o a w K r:=by
 obtain⟨v0,f2,eK,BL,xE,ph⟩:=mX.P7 rt (by simp) gI;obtain⟨_,⟨k,hik,gE⟩,am0⟩:=eK;have hkn:k=n:=by omega
 subst hkn;obtain⟨b2,o2,Uq,arr,T',fr,fps,Ks,jJ,qM,hs,hc,hh,Ax,hl,hkl,hfk,hr⟩:=gE;have jJ:w.heap[b2]?=some (.cells arr T' fr):=jJ;have h1:v0=g'.hdr t':=(am0 t' rfl).2;rw[hrt,Ks]at h1;simp only[Value.slice.injEq,ba,Addr.mk.injEq]at h1;obtain⟨⟨rfl,rfl,_⟩,_⟩:=h1;obtain⟨fh,⟨us,fE,T5⟩,LS,R2⟩:=mX.hands 0 _ _ rfl;obtain⟨q1,q2,hq,hq1,hq2⟩:=wg T5 hof;have RV:us.drop e.size=[]:=by cases hd0:us.drop e.size with|nil=>rfl|cons _ _=>rw[hd0]at hq2;exact hq2.elim
 rw[RV]at hq2;have ah5:q2=[]:=hq2;subst ah5;rw[bR]at hq;subst hq;have hus:us.take e.size=us:=by have:=cb e.size us;rw[RV,bR]at this;exact this
 rw[hus]at hq1;have hul:us.length=e.size:=eZ.length hq1;have sV:o2+(k+1)*e.size<=arr.size:=by rw[hs];exact Nat.add_le_add_left (cv _ (by omega)) _
 have YF:o2+k*e.size+e.size<=arr.size:=by rw[cA,eY]at sV;omega
 let w':=sC w b2 (ew arr (o2+k*e.size+0) us) T' fr;have DD:=lp jJ;have US:∀c,c≠b2->w'.heap[c]?=w.heap[c]?:=λc hc=>lO hc;have auc:=T5.length;have R7:=Bg (P:=P) (w:=w) (hE T sh hT) b2 (o2+k*e.size+0) fE (by omega) (λu hu=>eZ.mh hq1 u hu) jJ qM;have ec:(execOp a.eval o).run P w=.ok .skip w':=by simp only[execOp,ho,hv,Instr.storeAt,Instr.sureAddr,Sem.run_bind,Sem.run_pure,Result.andThen_ok];show((storeVar T ⟨b2,o2+k*e.size+0,none⟩ (a.eval x)).run P w).andThen _=_;rw[R7];rfl
 have EL:=B8 hfk;have uz:b2∉fps.flatten:=by rw[Ax]at BL;exact(db.1 BL).1
 have hnf:fps.flatten.Nodup:=by rw[Ax]at BL;exact(db.1 BL).2
 have L4:∀c∈fh,c∉f2:=by intro c hc hm;have h1:=R2 c hc;rw[xE c hm]at h1;cases rt<;>cases h1
 have amD:∀c∈fh,c≠b2:=λc hc e=>L4 c hc (by rw[Ax,e];simp);have age:∀c,c∈(fps.set k fh).flatten↔c∈fps.flatten\/c∈fh:=by intro c;rw[EL.2,EL.1];simp only[ay,List.not_mem_nil,or_false];constructor;rintro((h|h)|h)<;>simp[h];rintro((h|h)|h)<;>simp[h]
 have abD:eZ g'.hw w' (.sl e) [v0] (xs.set k x') (b2::(fps.set k fh).flatten):=by
  refine⟨v0,rfl,.inr ⟨b2,o2,Uq,ew arr (o2+k*e.size+0) us,T',fr,fps.set k fh,by rw[Ks];simp,uW DD,λj hj=>qM j (by rwa[ik]at hj),by rw[ik];exact hs,by simpa using hc,by rw[aC];exact hh,rfl,by simp[hl],?_⟩⟩;intro j y f hy hf;by_cases hjk:j=k;subst hjk;rw[bu]at hy hf;simp only[bP,hkl]at hy;simp only[bP]at hf;rw[zip]at hf;simp at hy hf;subst hy;subst hf;rw[FM (by omega) YF];have e1:((arr.toList.drop (o2+j*e.size)).take e.size).take 0++us++((arr.toList.drop (o2+j*e.size)).take e.size).drop (0+us.length)=us:=by rw[List.take_zero,cu,cW (by simp;omega),bR]
  rw[e1];exact eZ.mono hq1 (λc hc=>⟨US c (amD c hc),rfl⟩);rw[aR (cM hjk)]at hy hf;rw[DR (by omega) sV hjk];refine eZ.mono (hr j y f hjk hy hf) (λc hc=>⟨US c (λe0=>uz ?_),rfl⟩);rw[<-e0];exact List.mem_flatten.2 ⟨f,bp hf,hc⟩
 have arR:(b2::(fps.set k fh).flatten).Nodup:=by
  refine db.2 ⟨λhm=>?_,?_⟩;rcases(age b2).1 hm with h|h;exact uz h;exact amD b2 h rfl;rw[EL.2];rw[EL.1,bR]at hnf;have m:=aI.1 hnf;have amF:∀c,c∈(fps.take k).flatten\/c∈(fps.drop (k+1)).flatten->c∈f2:=by intro c hc;rw[Ax,EL.1];rcases hc with hc|hc<;>simp[hc]
  refine aI.2 ⟨aI.2 ⟨m.1,LS,?_⟩,m.2.1,?_⟩;rintro c hc d hd rfl;exact L4 c hd (amF c (.inl hc));rintro c hc d hd rfl;rcases ay.1 hc with hc|hc;exact m.2.2 c hc c hd rfl;exact L4 c hc (amF c (.inr hd))
 have arK:i.toNat=k:=by omega
 rw[arK]at hk
 obtain⟨g2,Ek⟩:=ph w' g'.hw (.sl (.own (some t')) e (xs.set k x')) (b2::(fps.set k fh).flatten) (λc' hle QC Ds=>⟨by rw[QC,Ds];exact abD,λt ht=>by simp at ht;subst ht;have h0:=am0 t' rfl;exact⟨(hle.hdr t' h0.1).1,by rw[(hle.hdr t' h0.1).2];exact h0.2⟩⟩) arR (λc hc=>by
  show _<(sC _ _ _ _ _).heap.size/\_
  rw[kT]
  rcases cm.1 hc with rfl|hc
  ·exact⟨DD,.inl (by rw[Ax];simp)⟩
  ·rcases(age c).1 hc with h|h
   ·have:c∈f2:=by rw[Ax];simp[h]
    exact⟨(mX.fS c _ (xE c this)).1,.inl this⟩
   ·exact⟨(mX.fS c _ (R2 c h)).1,.inr (by rw[R2 c h];rfl)⟩)
  ⟨rfl,rfl,rfl,by show _<=(sC _ _ _ _ _).heap.size;rw[kT];exact aU _,λc _ hc=>US c (λe=>hc (.inr (by rw[Ax,e];simp)))⟩ (λ_ _ _ _ _=>rfl)
 refine⟨undef,_,_,.inr ⟨rfl,ec⟩,?_,hk⟩;rw[hd];exact⟨g2,Ek⟩
theorem My {E:Env}(hE:ja P E.ty){o:Oper}{p x:Operand}(hd:o.dst=none)(ho:o.op=.store T p x)(h:mZ C st a w){K:AS->ax R}{ep t:Nat}{y:e.D}{bK:AS}(hT:iQ E.ty T=some sh)(hp:st.rd p=.val false [.zk (.loc ep (some (rt,t))) e y i off])(qT:st.take x=(.val gg vs,bK))(hlen:vs.length=sh.ct.size)(gx:off+sh.ct.size<=e.size)(hk:bK.oe rt t e i off vs K=some r):lS P C o a w K r:=by
 obtain⟨g,hg⟩:=h;have sU:=hg.rd p;rw[hp]at sU;obtain⟨_,b,ob,hv,_,_,DF⟩:=ej sU;obtain⟨_,n,o0,len,cap,sv,hrt,HJ,hob⟩:=DF rt t rfl;obtain⟨g',⟨GI,C6,L5,_⟩,mX⟩:=hg.aef x;rw[qT]at mX;unfold AS.oe at hk;split at hk;rename_i t' e' xs gI;split at hk;rename_i hee;subst hee;split at hk
 ·rename_i htt
  subst htt
  simp only at hk
  cases Cf:idx xs i with
  |none=>rw[Cf]at hk;simp[aa]at hk
  |some x0=>
  rw[Cf]at hk
  simp only[aa]at hk
  split at hk
  ·rename_i x' hof
   obtain⟨n',BB,hx0⟩:=R9 Cf
   have Kj:n'=n:=by omega
   subst Kj
   obtain⟨v0,f2,M8,gE,BL,xE,ph⟩:=mX.P8 rt gI
   have M8: .slice (some ⟨b,o0,none⟩) len cap=v0:=by have h1:=M8 t' rfl;have h2:g.hdr t'=.slice (some ⟨b,o0,none⟩) len cap:=hrt;rw[h1,L5,h2]
   obtain⟨b2,o2,Uq,arr,T',fr,f1,fx,f3,Ks,jJ,qM,sV,Kn,Bw,Cj⟩:=acy gE hx0
   rw[<-M8]at Ks
   simp only[Value.slice.injEq,ba,Addr.mk.injEq]at Ks
   obtain⟨⟨rfl,rfl,_⟩,_⟩:=Ks
   obtain⟨fh,⟨us,fE,T5⟩,LS,R2⟩:=mX.hands 0 _ _ rfl
   have hul:=T5.length
   have agd:off+us.length<=e'.size:=by omega
   have YF:(o0+n'*e'.size)+e'.size<=arr.size:=by rw[cA,eY]at sV;omega
   have amU:=xJ (c:=cG C g' bK w) Kn
   obtain⟨k1,k2,k3,hkx,r1,r2,r3⟩:=amU.mid off us.length
   have amC:=BL
   rw[Bw]at amC
   have uz:=db.1 amC
   have L4:∀c∈fh,c∉f2:=by intro c hc hm;have h1:=R2 c hc;rw[xE c hm]at h1;cases rt<;>cases h1
   let w':=sC w b (ew arr ((o0+n'*e'.size)+off) us) T' fr
   have DD:=lp jJ
   have US:∀c,c≠b->w'.heap[c]?=w.heap[c]?:=λc hc=>lO hc
   have ah8:∀u∈us,u.oneCell'=true:=by
    have GH:bE (cG C g' bK w) (((arr.toList.drop (o0+n'*e'.size)).take e'.size).take off++us++((arr.toList.drop (o0+n'*e'.size)).take e'.size).drop (off+us.length))
     (dZ (cellsOf e' (.own none) x0) off vs) (k1++fh++k3):=by
     have e2:dZ (cellsOf e' (.own none) x0) off vs=(cellsOf e' (.own none) x0).take off++vs++(cellsOf e' (.own none) x0).drop (off+us.length):=by simp only[dZ];rw[hul]
     rw[e2]
     exact(r1.append T5).append r3
    obtain⟨q1,q2,hq,hq1,hq2⟩:=wg GH hof;have amL:(((arr.toList.drop (o0+n'*e'.size)).take e'.size).take off++us++((arr.toList.drop (o0+n'*e'.size)).take e'.size).drop (off+us.length)).length=e'.size:=by rw[GH.length,DX (by rw[ki];omega),ki]
    rw[bN (by omega)]at hq1;intro u hu;exact eZ.mh hq1 u (by simp[hu])
   have R7:=Bg (P:=P) (w:=w) (hE T sh hT) b ((o0+n'*e'.size)+off) fE (by omega) ah8 jJ qM
   have ec:(execOp a.eval o).run P w=.ok .skip w':=by simp only[execOp,ho,hv,Instr.storeAt,Instr.sureAddr,Sem.run_bind,Sem.run_pure,Result.andThen_ok];show((storeVar T ⟨b,ob+off,none⟩ (a.eval x)).run P w).andThen _=_;rw[hob,R7];rfl
   have hle:(cG C g' bK w).Le ⟨g'.hw,g'.β,C.A,g'.hdr,lT bK,bK.ep+1,iR bK,w'⟩:=by
    refine⟨rfl,λ_ ht=>⟨ht,rfl⟩,λk c o u hA hu=>?_,Nat.le_succ _,λ_ hs=>⟨hs,rfl⟩,λhe=>absurd he (Nat.succ_ne_self _)⟩;have Az:c≠b:=by rintro rfl;exact mX.KI (xE c (by rw[Bw];simp)) k o hA
    rw[World.cell?_of_block (a:=⟨c,o,none⟩) (US c Az)];exact hu
   have amI:∀c∈fx,c≠b:=by rintro c hc rfl;exact uz.1 (by simp[hc])
   have GH:bE ⟨g'.hw,g'.β,C.A,g'.hdr,lT bK,bK.ep+1,iR bK,w'⟩
    (((ew arr ((o0+n'*e'.size)+off) us).toList.drop (o0+n'*e'.size)).take e'.size) (dZ (cellsOf e' (.own none) x0) off vs) (k1++fh++k3):=by
    have e2:dZ (cellsOf e' (.own none) x0) off vs=(cellsOf e' (.own none) x0).take off++vs++(cellsOf e' (.own none) x0).drop (off+us.length):=by simp only[dZ];rw[hul]
    rw[e2,FM agd YF]
    refine((r1.mono hle (λc hc=>⟨US c (amI c (by rw[hkx];simp[hc])),rfl⟩)).append
     (T5.mono hle (λc hc=>⟨US c (λe=>L4 c hc (by rw[Bw,e];simp)),rfl⟩))).append
     (r3.mono hle (λc hc=>⟨US c (amI c (by rw[hkx];simp[hc])),rfl⟩))
   obtain⟨q1,q2,hq,hq1,hq2⟩:=wg GH hof
   have amL:(((ew arr ((o0+n'*e'.size)+off) us).toList.drop (o0+n'*e'.size)).take e'.size).length=e'.size:=by rw[GH.length,DX (by rw[ki];omega),ki]
   rw[cW (by omega)]at hq2
   have ah5:q2=[]:=hq2
   subst ah5
   rw[bN (by omega)]at hq1
   rw[bR]at hq
   have abD:=Cj w' us off x' q1 agd (uW DD) (λc hc=>US c (λe=>uz.1 (by rw[<-e];rcases ay.1 hc with k|k<;>simp[k]))) hq1
   have Ay:∀c∈b::(f1++q1++f3),c∈f2\/c∈fh:=by intro c hc;rw[<-hq]at hc;simp only[cm,ay]at hc;rw[Bw,hkx];simp only[cm,ay];rcases hc with hc|((hc|((hc|hc)|hc))|hc)<;>simp[hc]
   have C7:(b::(f1++q1++f3)).Nodup:=by
    have Xc:=uz.2;rw[hkx]at Xc;rw[aP]at Xc;have m1:=aI.1 Xc;have m2:=aI.1 m1.2.1;have m2a:=m2.1;rw[aP]at m2a;have m3:=aI.1 m2a;have m4:=aI.1 m3.2.1;have inx:∀c,(c∈f1\/c∈k1\/c∈k3\/c∈f3)->c∈f2:=by intro c hc;rw[Bw,hkx];simp only[cm,ay];rcases hc with hc|hc|hc|hc<;>simp[hc]
    rw[<-hq];refine db.2 ⟨λhm=>?_,?_⟩;simp only[ay]at hm;rcases hm with(hm|((hm|hm)|hm))|hm;exact uz.1 (by simp[hm]);exact uz.1 (by rw[hkx];simp[hm]);exact L4 b hm (by rw[Bw];simp);exact uz.1 (by rw[hkx];simp[hm]);exact uz.1 (by simp[hm]);rw[aP];refine aI.2 ⟨m1.1,aI.2 ⟨?_,m2.2.1,?_⟩,?_⟩;rw[aP];refine aI.2 ⟨m3.1,aI.2 ⟨LS,m4.2.1,?_⟩,?_⟩;rintro c hc d hd rfl;exact L4 c hc (inx c (by simp[hd]));rintro c hc d hd rfl;rcases ay.1 hd with hd|hd;exact L4 c hd (inx c (by simp[hc]));exact m3.2.2 c hc c (bj _ hd) rfl;rintro c hc d hd rfl;simp only[ay]at hc;rcases hc with(hc|hc)|hc;exact m2.2.2 c (by simp[hc]) c hd rfl;exact L4 c hc (inx c (by simp[hd]));exact m2.2.2 c (by simp[hc]) c hd rfl;rintro c hc d hd rfl;simp only[ay]at hd;rcases hd with((hd|hd)|hd)|hd;exact m1.2.2 c hc c (by simp[hd]) rfl;exact L4 c hd (inx c (by simp[hc]));exact m1.2.2 c hc c (by simp[hd]) rfl;exact m1.2.2 c hc c (by simp[hd]) rfl
   have ahN:Fr (λc=>dE (g'.ef c)\/c∈f2) w w':=⟨rfl,rfl,rfl,by show _<=(sC _ _ _ _ _).heap.size;rw[kT];exact aU _,λc _ hc=>US c (λe=>hc (.inr (by rw[Bw,e];simp)))⟩
   obtain⟨g2,Ek⟩:=ph w' g'.hw (xs.set n' x') (b::(f1++q1++f3)) abD C7 (λc hc=>by rcases Ay c hc with k|k;exact⟨by show _<(sC _ _ _ _ _).heap.size;rw[kT];exact(mX.fS c _ (xE c k)).1,.inl k⟩;exact⟨by show _<(sC _ _ _ _ _).heap.size;rw[kT];exact(mX.fS c _ (R2 c k)).1,.inr (by rw[R2 c k];rfl)⟩) ahN (λ_ _ _ _ _=>rfl)
   refine⟨undef,_,_,.inr ⟨rfl,ec⟩,?_,hk⟩
   rw[hd]
   have ahP:i.toNat=n':=by omega
   rw[ahP]
   exact⟨g2,Ek⟩
  ·cases hk
 cases hk;cases hk;rename_i t' i' q e' xs gI;split at hk;rename_i hee;subst hee;split at hk;rename_i hc;obtain⟨rfl,rfl⟩:=hc;simp only at hk;cases Cf:YG xs i' i with|none=>rw[Cf]at hk;simp[aa]at hk|some x0=>obtain⟨rfl,aui⟩:=YH Cf;rw[Cf]at hk;simp only[aa]at hk;split at hk;rename_i x' hof;exact L0 hE hd ho hT hlen mX (by rw[hv,hob,dT]) (by rw[L5];exact hrt) sv gI hof hk;cases hk
 cases hk;cases hk;cases hk
theorem Wj {E:Env}(hE:ja P E.ty){o:Oper}{p x:Operand}(hd:o.dst=none)(ho:o.op=.store T p x)(h:mZ C st a w){K:AS->ax R}(hk:uU E T p x st K=some r):lS P C o a w K r:=by unfold uU at hk;split at hk;rename_i sh s off hT hp;split at hk;rename_i gg vs bK qT;split at hk;rename_i cs jt;split at hk;rename_i hlen;split at hk;rename_i gx;exact Mw hE hd ho h hT hp qT jt hlen.1 hlen.2 gx hk;cases hk;cases hk;cases hk;cases hk;rename_i sh ep rt t e y i off hT hp;split at hk;rename_i gg vs bK qT;split at hk;rename_i hc;exact My hE hd ho h hT hp qT hc.1 hc.2 hk;cases hk;cases hk;cases hk
end Go.Dn
