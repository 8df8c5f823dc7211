import Derived.Test.YtbebkmajekhclaaGreatDnOps2
/- Part 3: an element of an owned slice is written. -/
namespace Go.Dn
open Go.RowKit
variable {P:Program} {C:Ctx} {st:AS} {a:Act} {w:World} {R:Type} {r:R}
variable {arr:Array Value} {gg:Bool} {e:CT} {i:Int} {off:Nat} {rt:lQ} {sh:Shape} {T:TypeId} {vs:ax AC} {us:jt}
theorem Aj {o:Nat}(h:o+us.length<=arr.size)(j:Nat): (fA arr o us).toList[j]?=if o<=j/\j<o+us.length then us[j-o]? else arr.toList[j]?:=by
 rw[xH us arr o h];have hl:(arr.toList.take o).length=o:=by rw[aV];simp;omega
 by_cases h1:j<o;rw[nU,aL,bF (by omega),ej,aI h1];by_cases h2:j<o+us.length;rw[zip,aL,bA (by omega),hl,bF (by omega)];rw[nU,bA (by rw[ai];omega),ai,hl,bQ];congr 1;omega
theorem kl {l:jt}(p n j:Nat):((l.drop p).take n)[j]?=if j<n then l[p+j]? else none:=by rw[ej];split;rw[bQ];rfl
theorem Il {o0 size n i:Nat}(RU:off+us.length<=size)(hn:o0+(n+1)*size<=arr.size)(hi:i≠n): ((fA arr (o0+n*size+off) us).toList.drop (o0+i*size)).take size=(arr.toList.drop (o0+i*size)).take size:=by
 have D7:o0+n*size+size<=arr.size:=by rw[cU,fX]at hn;omega
 apply cS;intro j;rw[kl,kl];split;rename_i hj;rw[Aj (by omega),aG];intro hc;rcases Nat.lt_or_gt_of_ne hi with h|h;have:(i+1)*size<=n*size:=cK _ h;rw[cU,fX]at this;omega;have:(n+1)*size<=i*size:=cK _ h;rw[cU,fX]at this;omega;rfl
theorem KD {p size:Nat}(RU:off+us.length<=size)(D7:p+size<=arr.size): ((fA arr (p+off) us).toList.drop p).take size= ((arr.toList.drop p).take size).take off++us++((arr.toList.drop p).take size).drop (off+us.length):=by
 have hl:((arr.toList.drop p).take size).length=size:=by simp;omega
 have BK:(((arr.toList.drop p).take size).take off).length=off:=by rw[aV,hl];omega
 apply cS;intro j;rw[kl];by_cases hj:j<size;rw[aI hj,Aj (by omega)];by_cases h1:j<off;rw[nU,aL,bF (by omega),ej,aI h1,kl,aI hj];by_cases h2:j<off+us.length;rw[zip,aL,bA (by omega),BK,bF (by omega)];congr 1;omega;rw[nU,bA (by rw[ai];omega),ai,BK,bQ,kl,show off+us.length+(j-(off+us.length))=j by omega,aI hj];rw[aG hj,bI];simp only[ai,BK,aJ,hl];omega
theorem aj2 {hw:Nat->Nat}{w:World}{v:Value}{xs:ax e.D}{fp0:fK}(h:fZ hw w (.sl e) [v] xs fp0){n:Nat}{x:e.D}(hx:xs[n]?=some x): ∃b o0 cap arr T fr f1 fx f3,v=.slice (some ⟨b,o0,none⟩) xs.length cap/\w.heap[b]?=some (.cells arr T fr)/\ru arr fr/\o0+(n+1)*e.size<=arr.size/\ fZ hw w e ((arr.toList.drop (o0+n*e.size)).take e.size) x fx/\fp0=b::(f1++fx++f3)/\ ∀(w':World)(us:jt)(off:Nat)(x':e.D)(fx':fK),off+us.length<=e.size->w'.heap[b]?=some (.cells (fA arr (o0+n*e.size+off) us) T fr)-> (∀b'∈f1++f3,w'.heap[b']?=w.heap[b']?)->fZ hw w' e (((fA arr (o0+n*e.size+off) us).toList.drop (o0+n*e.size)).take e.size) x' fx'-> fZ hw w' (.sl e) [v] (xs.set n x') (b::(f1++fx'++f3)):=by
 obtain⟨u,hu,h⟩:=h;simp at hu;subst hu;have MW:n<xs.length:=(aA.1 hx).1;rcases h with⟨⟨_,rfl⟩,rfl,rfl⟩|⟨b,o0,cap,arr,T,fr,fps,rfl,hb,uv,hs,hc,hh,rfl,hl,hr⟩;simp at hx;have Rv:fps[n]?=some fps[n]:=al (by omega);have Jp:=Gd Rv;have hm:o0+(n+1)*e.size<=arr.size:=by rw[hs];exact Nat.add_le_add_left (cK _ (by omega)) _
 refine⟨b,o0,cap,arr,T,fr,(fps.take n).flatten,fps[n],(fps.drop (n+1)).flatten,rfl,hb,uv,hm,hr n x _ hx Rv,by rw[Jp.1],?_⟩;intro w' us off x' fx' RU iI hk iz;refine⟨_,rfl,.inr ⟨b,o0,cap,fA arr (o0+n*e.size+off) us,T,fr,fps.set n fx',by simp,iI,λj hj=>uv j (by rwa[jn]at hj),by rw[jn];exact hs,by simpa using hc,by simpa using hh,by rw[Jp.2],by simp[hl],?_⟩⟩;intro i y f hy hf;by_cases uB:i=n;subst uB;rw[bJ]at hy hf;simp only[ch,MW]at hy;simp only[ch]at hf;rw[zip]at hf;simp at hy hf;subst hy;subst hf;exact iz;rw[aP (cZ uB)]at hy hf;rw[Il RU hm uB];refine fZ.mono (hr i y f hy hf) (λb' aqj=>⟨hk b' ?_,rfl⟩);have Oo:i<fps.length:=(aA.1 hf).1;have hfi:fps[i]=f:=by rw[al Oo]at hf;simpa using hf
 rcases Nat.lt_or_gt_of_ne uB with gH|hgt;refine bK _ (List.mem_flatten.2 ⟨f,?_,aqj⟩);rw[List.mem_take_iff_getElem];exact⟨i,by omega,hfi⟩;refine bw _ (List.mem_flatten.2 ⟨f,?_,aqj⟩);rw[List.mem_drop_iff_getElem];exact⟨i-(n+1),by omega,by rw[<-hfi];congr 1;omega⟩
theorem XV {α:Type}{xs:ax α}{x:α}(h:idx xs i=some x):∃n:Nat,i=n/\xs[n]?=some x:=by cases i with|ofNat n=>exact⟨n,rfl,h⟩|negSucc n=>simp[idx]at h
theorem RN {E:Env}(hE:kq P E.ty){o:Oper}{p x:Operand}(hd:o.dst=none)(ho:o.op=.store T p x){K:AS->az R}{t':Nat}{bZ:AS}{g':Gh}(hT:jU E.ty T=some sh)(hlen:vs.length=sh.ct.size)(pJ:eJ C g' bZ a w [(a.eval x,.val gg vs)]){b o0 len cap n:Nat}{q:az Nat}{xs:ax e.D}{x':e.D}(hv:a.eval p=.pointer (some ⟨b,o0+n*e.size,none⟩))(hrt:g'.hdr t'=.slice (some ⟨b,o0,none⟩) len cap)(uB:i=n)(iR:bZ.fN rt=some (.sl (.ga (some t') i q) e xs))(hof:mI e vs=some (x',[]))(hk:K {bZ.fU rt (.sl (.own (some t')) e (xs.set i.toNat x'))with ep:=bZ.ep+1}=some r):oa P C o a w K r:=by
 obtain⟨v0,f2,fM,BL,BK,si⟩:=pJ.V1 rt (by simp) iR;obtain⟨_,⟨k,hik,iz⟩,aqQ⟩:=fM;have hkn:k=n:=by omega
 subst hkn;obtain⟨b2,o2,aav,arr,T',fr,fps,PX,lz,uv,hs,hc,hh,CN,hl,Ry,hfk,hr⟩:=iz;have lz:w.heap[b2]?=some (.cells arr T' fr):=lz;have h1:v0=g'.hdr t':=(aqQ t' rfl).2;rw[hrt,PX]at h1;simp only[Value.slice.injEq,bq,Addr.mk.injEq]at h1;obtain⟨⟨rfl,rfl,_⟩,_⟩:=h1;obtain⟨fh,⟨us,gb,hrh⟩,Rz,XO⟩:=pJ.hands 0 _ _ rfl;obtain⟨q1,q2,hq,hq1,hq2⟩:=Ah hrh hof;have XK:us.drop e.size=[]:=by cases hd0:us.drop e.size with|nil=>rfl|cons _ _=>rw[hd0]at hq2;exact hq2.elim
 rw[XK]at hq2;have aoA:q2=[]:=hq2;subst aoA;rw[bD]at hq;subst hq;have hus:us.take e.size=us:=by have:=cI e.size us;rw[XK,bD]at this;exact this
 rw[hus]at hq1;have hul:us.length=e.size:=fZ.length hq1;have vZ:o2+(k+1)*e.size<=arr.size:=by rw[hs];exact Nat.add_le_add_left (cK _ (by omega)) _
 have afy:o2+k*e.size+e.size<=arr.size:=by rw[cU,fX]at vZ;omega
 let w':=wi w b2 (fA arr (o2+k*e.size+0) us) T' fr;have Hq:=nz lz;have Rx:∀c,c≠b2->w'.heap[c]?=w.heap[c]?:=λc hc=>nT hc;have awj:=hrh.length;have XT:=Fg (P:=P) (w:=w) (hE T sh hT) b2 (o2+k*e.size+0) gb (by omega) (λu hu=>fZ.oy hq1 u hu) lz uv;have fg:(execOp a.eval o).run P w=.ok .skip w':=by simp only[execOp,ho,hv,Instr.storeAt,Instr.sureAddr,Sem.run_bind,Sem.run_pure,Result.andThen_ok];show((storeVar T ⟨b2,o2+k*e.size+0,none⟩ (a.eval x)).run P w).andThen _=_;rw[XT];rfl
 have Jp:=Gd hfk;have yn:b2∉fps.flatten:=by rw[CN]at BL;exact(dG.1 BL).1
 have hnf:fps.flatten.Nodup:=by rw[CN]at BL;exact(dG.1 BL).2
 have RQ:∀c∈fh,c∉f2:=by intro c hc hm;have h1:=XO c hc;rw[BK c hm]at h1;cases rt<;>cases h1
 have aqs:∀c∈fh,c≠b2:=λc hc e=>RQ c hc (by rw[CN,e];simp);have anf:∀c,c∈(fps.set k fh).flatten↔c∈fps.flatten\/c∈fh:=by intro c;rw[Jp.2,Jp.1];simp only[ay,List.not_mem_nil,or_false];constructor;rintro((h|h)|h)<;>simp[h];rintro((h|h)|h)<;>simp[h]
 have aja:fZ g'.hw w' (.sl e) [v0] (xs.set k x') (b2::(fps.set k fh).flatten):=by
  refine⟨v0,rfl,.inr ⟨b2,o2,aav,fA arr (o2+k*e.size+0) us,T',fr,fps.set k fh,by rw[PX];simp,yQ Hq,λj hj=>uv j (by rwa[jn]at hj),by rw[jn];exact hs,by simpa using hc,by rw[aC];exact hh,rfl,by simp[hl],?_⟩⟩;intro j y f hy hf;by_cases hjk:j=k;subst hjk;rw[bJ]at hy hf;simp only[ch,Ry]at hy;simp only[ch]at hf;rw[zip]at hf;simp at hy hf;subst hy;subst hf;rw[KD (by omega) afy];have e1:((arr.toList.drop (o2+j*e.size)).take e.size).take 0++us++((arr.toList.drop (o2+j*e.size)).take e.size).drop (0+us.length)=us:=by rw[List.take_zero,cd,di (by simp;omega),bD]
  rw[e1];exact fZ.mono hq1 (λc hc=>⟨Rx c (aqs c hc),rfl⟩);rw[aP (cZ hjk)]at hy hf;rw[Il (by omega) vZ hjk];refine fZ.mono (hr j y f hjk hy hf) (λc hc=>⟨Rx c (λe0=>yn ?_),rfl⟩);rw[<-e0];exact List.mem_flatten.2 ⟨f,aY hf,hc⟩
 have avH:(b2::(fps.set k fh).flatten).Nodup:=by
  refine dG.2 ⟨λhm=>?_,?_⟩;rcases(anf b2).1 hm with h|h;exact yn h;exact aqs b2 h rfl;rw[Jp.2];rw[Jp.1,bD]at hnf;have m:=aQ.1 hnf;have aqu:∀c,c∈(fps.take k).flatten\/c∈(fps.drop (k+1)).flatten->c∈f2:=by intro c hc;rw[CN,Jp.1];rcases hc with hc|hc<;>simp[hc]
  refine aQ.2 ⟨aQ.2 ⟨m.1,Rz,?_⟩,m.2.1,?_⟩;rintro c hc d hd rfl;exact RQ c hd (aqu c (.inl hc));rintro c hc d hd rfl;rcases ay.1 hc with hc|hc;exact m.2.2 c hc c hd rfl;exact RQ c hc (aqu c (.inr hd))
 have avz:i.toNat=k:=by omega
 rw[avz]at hk
 obtain⟨g2,IU⟩:=si w' g'.hw (.sl (.own (some t')) e (xs.set k x')) (b2::(fps.set k fh).flatten) (λc' hle Wu HS=>⟨by rw[Wu,HS];exact aja,λt ht=>by simp at ht;subst ht;have h0:=aqQ t' rfl;exact⟨(hle.hdr t' h0.1).1,by rw[(hle.hdr t' h0.1).2];exact h0.2⟩⟩) avH (λc hc=>by
  show _<(wi _ _ _ _ _).heap.size/\_
  rw[mV]
  rcases bS.1 hc with rfl|hc
  ·exact⟨Hq,.inl (by rw[CN];simp)⟩
  ·rcases(anf c).1 hc with h|h
   ·have:c∈f2:=by rw[CN];simp[h]
    exact⟨(pJ.gW c _ (BK c this)).1,.inl this⟩
   ·exact⟨(pJ.gW c _ (XO c h)).1,.inr (by rw[XO c h];rfl)⟩)
  ⟨rfl,rfl,rfl,by show _<=(wi _ _ _ _ _).heap.size;rw[mV];exact bj _,λc _ hc=>Rx c (λe=>hc (.inr (by rw[CN,e];simp)))⟩ (λ_ _ _ _ _=>rfl)
 refine⟨undef,_,_,.inr ⟨rfl,fg⟩,?_,hk⟩;rw[hd];exact⟨g2,IU⟩
theorem Sm {E:Env}(hE:kq P E.ty){o:Oper}{p x:Operand}(hd:o.dst=none)(ho:o.op=.store T p x)(h:pL C st a w){K:AS->az R}{ep t:Nat}{y:e.D}{bZ:AS}(hT:jU E.ty T=some sh)(hp:st.rd p=.val false [.Dy (.loc ep (some (rt,t))) e y i off])(uH:st.take x=(.val gg vs,bZ))(hlen:vs.length=sh.ct.size)(iw:off+sh.ct.size<=e.size)(hk:bZ.qU rt t e i off vs K=some r):oa P C o a w K r:=by
 obtain⟨g,hg⟩:=h;have wM:=hg.rd p;rw[hp]at wM;obtain⟨_,b,ob,hv,_,_,H6⟩:=fw wM;obtain⟨_,n,o0,len,cap,uB,hrt,MW,hob⟩:=H6 rt t rfl;obtain⟨g',⟨LC,Hr,RR,_⟩,pJ⟩:=hg.ak9 x;rw[uH]at pJ;unfold AS.qU at hk;split at hk;rename_i t' e' xs iR;split at hk;rename_i hee;subst hee;split at hk
 ·rename_i htt
  subst htt
  simp only at hk
  cases Gl:idx xs i with
  |none=>rw[Gl]at hk;simp[aa]at hk
  |some x0=>
  rw[Gl]at hk
  simp only[aa]at hk
  split at hk
  ·rename_i x' hof
   obtain⟨n',D7,hx0⟩:=XV Gl
   have PO:n'=n:=by omega
   subst PO
   obtain⟨v0,f2,S3,iz,BL,BK,si⟩:=pJ.V2 rt iR
   have S3: .slice (some ⟨b,o0,none⟩) len cap=v0:=by have h1:=S3 t' rfl;have h2:g.hdr t'=.slice (some ⟨b,o0,none⟩) len cap:=hrt;rw[h1,RR,h2]
   obtain⟨b2,o2,aav,arr,T',fr,f1,fx,f3,PX,lz,uv,vZ,PT,FC,Gq⟩:=aj2 iz hx0
   rw[<-S3]at PX
   simp only[Value.slice.injEq,bq,Addr.mk.injEq]at PX
   obtain⟨⟨rfl,rfl,_⟩,_⟩:=PX
   obtain⟨fh,⟨us,gb,hrh⟩,Rz,XO⟩:=pJ.hands 0 _ _ rfl
   have hul:=hrh.length
   have ane:off+us.length<=e'.size:=by omega
   have afy:(o0+n'*e'.size)+e'.size<=arr.size:=by rw[cU,fX]at vZ;omega
   have aqK:=BP (c:=df C g' bZ w) PT
   obtain⟨k1,k2,k3,hkx,r1,r2,r3⟩:=aqK.mid off us.length
   have aqr:=BL
   rw[FC]at aqr
   have yn:=dG.1 aqr
   have RQ:∀c∈fh,c∉f2:=by intro c hc hm;have h1:=XO c hc;rw[BK c hm]at h1;cases rt<;>cases h1
   let w':=wi w b (fA arr ((o0+n'*e'.size)+off) us) T' fr
   have Hq:=nz lz
   have Rx:∀c,c≠b->w'.heap[c]?=w.heap[c]?:=λc hc=>nT hc
   have aoD:∀u∈us,u.oneCell'=true:=by
    have LB:bU (df C g' bZ w) (((arr.toList.drop (o0+n'*e'.size)).take e'.size).take off++us++((arr.toList.drop (o0+n'*e'.size)).take e'.size).drop (off+us.length))
     (eZ (cellsOf e' (.own none) x0) off vs) (k1++fh++k3):=by
     have e2:eZ (cellsOf e' (.own none) x0) off vs=(cellsOf e' (.own none) x0).take off++vs++(cellsOf e' (.own none) x0).drop (off+us.length):=by simp only[eZ];rw[hul]
     rw[e2]
     exact(r1.append hrh).append r3
    obtain⟨q1,q2,hq,hq1,hq2⟩:=Ah LB hof;have aqA:(((arr.toList.drop (o0+n'*e'.size)).take e'.size).take off++us++((arr.toList.drop (o0+n'*e'.size)).take e'.size).drop (off+us.length)).length=e'.size:=by rw[LB.length,It (by rw[me];omega),me]
    rw[cf (by omega)]at hq1;intro u hu;exact fZ.oy hq1 u (by simp[hu])
   have XT:=Fg (P:=P) (w:=w) (hE T sh hT) b ((o0+n'*e'.size)+off) gb (by omega) aoD lz uv
   have fg:(execOp a.eval o).run P w=.ok .skip w':=by simp only[execOp,ho,hv,Instr.storeAt,Instr.sureAddr,Sem.run_bind,Sem.run_pure,Result.andThen_ok];show((storeVar T ⟨b,ob+off,none⟩ (a.eval x)).run P w).andThen _=_;rw[hob,XT];rfl
   have hle:(df C g' bZ w).Le ⟨g'.hw,g'.β,C.A,g'.hdr,oc bZ,bZ.ep+1,jW bZ,w'⟩:=by
    refine⟨rfl,λ_ ht=>⟨ht,rfl⟩,λk c o u hA hu=>?_,Nat.le_succ _,λ_ hs=>⟨hs,rfl⟩,λhe=>absurd he (Nat.succ_ne_self _)⟩;have D9:c≠b:=by rintro rfl;exact pJ.Qd (BK c (by rw[FC];simp)) k o hA
    rw[World.cell?_of_block (a:=⟨c,o,none⟩) (Rx c D9)];exact hu
   have aqx:∀c∈fx,c≠b:=by rintro c hc rfl;exact yn.1 (by simp[hc])
   have LB:bU ⟨g'.hw,g'.β,C.A,g'.hdr,oc bZ,bZ.ep+1,jW bZ,w'⟩
    (((fA arr ((o0+n'*e'.size)+off) us).toList.drop (o0+n'*e'.size)).take e'.size) (eZ (cellsOf e' (.own none) x0) off vs) (k1++fh++k3):=by
    have e2:eZ (cellsOf e' (.own none) x0) off vs=(cellsOf e' (.own none) x0).take off++vs++(cellsOf e' (.own none) x0).drop (off+us.length):=by simp only[eZ];rw[hul]
    rw[e2,KD ane afy]
    refine((r1.mono hle (λc hc=>⟨Rx c (aqx c (by rw[hkx];simp[hc])),rfl⟩)).append
     (hrh.mono hle (λc hc=>⟨Rx c (λe=>RQ c hc (by rw[FC,e];simp)),rfl⟩))).append
     (r3.mono hle (λc hc=>⟨Rx c (aqx c (by rw[hkx];simp[hc])),rfl⟩))
   obtain⟨q1,q2,hq,hq1,hq2⟩:=Ah LB hof
   have aqA:(((fA arr ((o0+n'*e'.size)+off) us).toList.drop (o0+n'*e'.size)).take e'.size).length=e'.size:=by rw[LB.length,It (by rw[me];omega),me]
   rw[di (by omega)]at hq2
   have aoA:q2=[]:=hq2
   subst aoA
   rw[cf (by omega)]at hq1
   rw[bD]at hq
   have aja:=Gq w' us off x' q1 ane (yQ Hq) (λc hc=>Rx c (λe=>yn.1 (by rw[<-e];rcases ay.1 hc with k|k<;>simp[k]))) hq1
   have DD:∀c∈b::(f1++q1++f3),c∈f2\/c∈fh:=by intro c hc;rw[<-hq]at hc;simp only[bS,ay]at hc;rw[FC,hkx];simp only[bS,ay];rcases hc with hc|((hc|((hc|hc)|hc))|hc)<;>simp[hc]
   have Hs:(b::(f1++q1++f3)).Nodup:=by
    have hx2:=yn.2;rw[hkx]at hx2;rw[aL]at hx2;have m1:=aQ.1 hx2;have m2:=aQ.1 m1.2.1;have m2a:=m2.1;rw[aL]at m2a;have m3:=aQ.1 m2a;have m4:=aQ.1 m3.2.1;have inx:∀c,(c∈f1\/c∈k1\/c∈k3\/c∈f3)->c∈f2:=by intro c hc;rw[FC,hkx];simp only[bS,ay];rcases hc with hc|hc|hc|hc<;>simp[hc]
    rw[<-hq];refine dG.2 ⟨λhm=>?_,?_⟩;simp only[ay]at hm;rcases hm with(hm|((hm|hm)|hm))|hm;exact yn.1 (by simp[hm]);exact yn.1 (by rw[hkx];simp[hm]);exact RQ b hm (by rw[FC];simp);exact yn.1 (by rw[hkx];simp[hm]);exact yn.1 (by simp[hm]);rw[aL];refine aQ.2 ⟨m1.1,aQ.2 ⟨?_,m2.2.1,?_⟩,?_⟩;rw[aL];refine aQ.2 ⟨m3.1,aQ.2 ⟨Rz,m4.2.1,?_⟩,?_⟩;rintro c hc d hd rfl;exact RQ c hc (inx c (by simp[hd]));rintro c hc d hd rfl;rcases ay.1 hd with hd|hd;exact RQ c hd (inx c (by simp[hc]));exact m3.2.2 c hc c (bw _ hd) rfl;rintro c hc d hd rfl;simp only[ay]at hc;rcases hc with(hc|hc)|hc;exact m2.2.2 c (by simp[hc]) c hd rfl;exact RQ c hc (inx c (by simp[hd]));exact m2.2.2 c (by simp[hc]) c hd rfl;rintro c hc d hd rfl;simp only[ay]at hd;rcases hd with((hd|hd)|hd)|hd;exact m1.2.2 c hc c (by simp[hd]) rfl;exact RQ c hd (inx c (by simp[hc]));exact m1.2.2 c hc c (by simp[hd]) rfl;exact m1.2.2 c hc c (by simp[hd]) rfl
   have aoi:Fr (λc=>eE (g'.ft c)\/c∈f2) w w':=⟨rfl,rfl,rfl,by show _<=(wi _ _ _ _ _).heap.size;rw[mV];exact bj _,λc _ hc=>Rx c (λe=>hc (.inr (by rw[FC,e];simp)))⟩
   obtain⟨g2,IU⟩:=si w' g'.hw (xs.set n' x') (b::(f1++q1++f3)) aja Hs (λc hc=>by rcases DD c hc with k|k;exact⟨by show _<(wi _ _ _ _ _).heap.size;rw[mV];exact(pJ.gW c _ (BK c k)).1,.inl k⟩;exact⟨by show _<(wi _ _ _ _ _).heap.size;rw[mV];exact(pJ.gW c _ (XO c k)).1,.inr (by rw[XO c k];rfl)⟩) aoi (λ_ _ _ _ _=>rfl)
   refine⟨undef,_,_,.inr ⟨rfl,fg⟩,?_,hk⟩
   rw[hd]
   have aok:i.toNat=n':=by omega
   rw[aok]
   exact⟨g2,IU⟩
  ·cases hk
 cases hk;cases hk;rename_i t' i' q e' xs iR;split at hk;rename_i hee;subst hee;split at hk;rename_i hc;obtain⟨rfl,rfl⟩:=hc;simp only at hk;cases Gl:afz xs i' i with|none=>rw[Gl]at hk;simp[aa]at hk|some x0=>obtain⟨rfl,awp⟩:=afA Gl;rw[Gl]at hk;simp only[aa]at hk;split at hk;rename_i x' hof;exact RN hE hd ho hT hlen pJ (by rw[hv,hob,eP]) (by rw[RR];exact hrt) uB iR hof hk;cases hk
 cases hk;cases hk;cases hk
theorem ac7 {E:Env}(hE:kq P E.ty){o:Oper}{p x:Operand}(hd:o.dst=none)(ho:o.op=.store T p x)(h:pL C st a w){K:AS->az R}(hk:yO E T p x st K=some r):oa P C o a w K r:=by unfold yO at hk;split at hk;rename_i sh s off hT hp;split at hk;rename_i gg vs bZ uH;split at hk;rename_i cs kQ;split at hk;rename_i hlen;split at hk;rename_i iw;exact Sk hE hd ho h hT hp uH kQ hlen.1 hlen.2 iw hk;cases hk;cases hk;cases hk;cases hk;rename_i sh ep rt t e y i off hT hp;split at hk;rename_i gg vs bZ uH;split at hk;rename_i hc;exact Sm hE hd ho h hT hp uH hc.1 hc.2 hk;cases hk;cases hk;cases hk
end Go.Dn
