import Derived.Test.YtnmppgnbjfdffaaGreatDnOps2
/- Part 3: an element of an owned slice is written. -/
namespace Go.Dn
open Go.RowKit
variable {P:Program} {C:Ctx} {st:AS} {a:Act} {w:World} {R:Type} {r:R}
variable {arr:Array Value} {gg:Bool} {e:CT} {i:Int} {off:Nat} {rt:ka} {sh:Shape} {T:TypeId} {vs:aw AC} {us:iq}
theorem wA {o:Nat}(h:o+us.length<=arr.size)(j:Nat): (eC arr o us).toList[j]?=if o<=j/\j<o+us.length then us[j-o]? else arr.toList[j]?:=by
 rw[tZ us arr o h];have hl:(arr.toList.take o).length=o:=by rw[aY];simp;omega
 by_cases h1:j<o;rw[lZ,aQ,bz (by omega),dA,aE h1];by_cases h2:j<o+us.length;rw[zip,aQ,bq (by omega),hl,bz (by omega)];rw[lZ,bq (by rw[ai];omega),ai,hl,bI];congr 1;omega
theorem iW {l:iq}(p n j:Nat):((l.drop p).take n)[j]?=if j<n then l[p+j]? else none:=by rw[dA];split;rw[bI];rfl
theorem Ec {o0 size n i:Nat}(Mn:off+us.length<=size)(hn:o0+(n+1)*size<=arr.size)(hi:i≠n): ((eC arr (o0+n*size+off) us).toList.drop (o0+i*size)).take size=(arr.toList.drop (o0+i*size)).take size:=by
 have BP:o0+n*size+size<=arr.size:=by rw[cy,fb]at hn;omega
 apply cn;intro j;rw[iW,iW];split;rename_i hj;rw[wA (by omega),aH];intro hc;rcases Nat.lt_or_gt_of_ne hi with h|h;have:(i+1)*size<=n*size:=cu _ h;rw[cy,fb]at this;omega;have:(n+1)*size<=i*size:=cu _ h;rw[cy,fb]at this;omega;rfl
theorem Gg {p size:Nat}(Mn:off+us.length<=size)(BP:p+size<=arr.size): ((eC arr (p+off) us).toList.drop p).take size= ((arr.toList.drop p).take size).take off++us++((arr.toList.drop p).take size).drop (off+us.length):=by
 have hl:((arr.toList.drop p).take size).length=size:=by simp;omega
 have xY:(((arr.toList.drop p).take size).take off).length=off:=by rw[aY,hl];omega
 apply cn;intro j;rw[iW];by_cases hj:j<size;rw[aE hj,wA (by omega)];by_cases h1:j<off;rw[lZ,aQ,bz (by omega),dA,aE h1,iW,aE hj];by_cases h2:j<off+us.length;rw[zip,aQ,bq (by omega),xY,bz (by omega)];congr 1;omega;rw[lZ,bq (by rw[ai];omega),ai,xY,bI,iW,show off+us.length+(j-(off+us.length))=j by omega,aE hj];rw[aH hj,bh];simp only[ai,xY,aM,hl];omega
theorem ac3 {hw:Nat->Nat}{w:World}{v:Value}{xs:aw e.D}{fp0:fw}(h:ff hw w (.sl e) [v] xs fp0){n:Nat}{x:e.D}(hx:xs[n]?=some x): ∃b o0 cap arr T fr f1 fx f3,v=.slice (some ⟨b,o0,none⟩) xs.length cap/\w.heap[b]?=some (.cells arr T fr)/\oR arr fr/\o0+(n+1)*e.size<=arr.size/\ ff hw w e ((arr.toList.drop (o0+n*e.size)).take e.size) x fx/\fp0=b::(f1++fx++f3)/\ ∀(w':World)(us:iq)(off:Nat)(x':e.D)(fx':fw),off+us.length<=e.size->w'.heap[b]?=some (.cells (eC arr (o0+n*e.size+off) us) T fr)-> (∀b'∈f1++f3,w'.heap[b']?=w.heap[b']?)->ff hw w' e (((eC arr (o0+n*e.size+off) us).toList.drop (o0+n*e.size)).take e.size) x' fx'-> ff hw w' (.sl e) [v] (xs.set n x') (b::(f1++fx'++f3)):=by
 obtain⟨u,hu,h⟩:=h;simp at hu;subst hu;have Im:n<xs.length:=(aF.1 hx).1;rcases h with⟨⟨_,rfl⟩,rfl,rfl⟩|⟨b,o0,cap,arr,T,fr,fps,rfl,hb,qZ,hs,hc,hh,rfl,hl,hr⟩;simp at hx;have RA:fps[n]?=some fps[n]:=al (by omega);have E9:=Cl RA;have hm:o0+(n+1)*e.size<=arr.size:=by rw[hs];exact Nat.add_le_add_left (cu _ (by omega)) _
 refine⟨b,o0,cap,arr,T,fr,(fps.take n).flatten,fps[n],(fps.drop (n+1)).flatten,rfl,hb,qZ,hm,hr n x _ hx RA,by rw[E9.1],?_⟩;intro w' us off x' fx' Mn gM hk gE;refine⟨_,rfl,.inr ⟨b,o0,cap,eC arr (o0+n*e.size+off) us,T,fr,fps.set n fx',by simp,gM,λj hj=>qZ j (by rwa[ij]at hj),by rw[ij];exact hs,by simpa using hc,by simpa using hh,by rw[E9.2],by simp[hl],?_⟩⟩;intro i y f hy hf;by_cases sJ:i=n;subst sJ;rw[br]at hy hf;simp only[bN,Im]at hy;simp only[bN]at hf;rw[zip]at hf;simp at hy hf;subst hy;subst hf;exact gE;rw[aO (cO sJ)]at hy hf;rw[Ec Mn hm sJ];refine ff.mono (hr i y f hy hf) (λb' aiO=>⟨hk b' ?_,rfl⟩);have Ml:i<fps.length:=(aF.1 hf).1;have hfi:fps[i]=f:=by rw[al Ml]at hf;simpa using hf
 rcases Nat.lt_or_gt_of_ne sJ with gQ|hgt;refine bt _ (List.mem_flatten.2 ⟨f,?_,aiO⟩);rw[List.mem_take_iff_getElem];exact⟨i,by omega,hfi⟩;refine bj _ (List.mem_flatten.2 ⟨f,?_,aiO⟩);rw[List.mem_drop_iff_getElem];exact⟨i-(n+1),by omega,by rw[<-hfi];congr 1;omega⟩
theorem RL {α:Type}{xs:aw α}{x:α}(h:idx xs i=some x):∃n:Nat,i=n/\xs[n]?=some x:=by cases i with|ofNat n=>exact⟨n,rfl,h⟩|negSucc n=>simp[idx]at h
theorem Mf {E:Env}(hE:ja P E.ty){o:Oper}{p x:Operand}(hd:o.dst=none)(ho:o.op=.store T p x){K:AS->ax R}{t':Nat}{bH:AS}{g':Gh}(hT:iR E.ty T=some sh)(hlen:vs.length=sh.ct.size)(nm:dM C g' bH a w [(a.eval x,.val gg vs)]){b o0 len cap n:Nat}{q:ax Nat}{xs:aw e.D}{x':e.D}(hv:a.eval p=.pointer (some ⟨b,o0+n*e.size,none⟩))(hrt:g'.hdr t'=.slice (some ⟨b,o0,none⟩) len cap)(sJ:i=n)(gI:bH.eM rt=some (.sl (.fg (some t') i q) e xs))(hof:kJ e vs=some (x',[]))(hk:K {bH.eU rt (.sl (.own (some t')) e (xs.set i.toNat x'))with ep:=bH.ep+1}=some r):ma P C o a w K r:=by
 obtain⟨v0,f2,eL,AJ,xY,pC⟩:=nm.P0 rt (by simp) gI;obtain⟨_,⟨k,hik,gE⟩,ajk⟩:=eL;have hkn:k=n:=by omega
 subst hkn;obtain⟨b2,o2,T6,arr,T',fr,fps,KB,jL,qZ,hs,hc,hh,AW,hl,hkl,hfk,hr⟩:=gE;have jL:w.heap[b2]?=some (.cells arr T' fr):=jL;have h1:v0=g'.hdr t':=(ajk t' rfl).2;rw[hrt,KB]at h1;simp only[Value.slice.injEq,aZ,Addr.mk.injEq]at h1;obtain⟨⟨rfl,rfl,_⟩,_⟩:=h1;obtain⟨fh,⟨us,fi,TK⟩,L6,RE⟩:=nm.hands 0 _ _ rfl;obtain⟨q1,q2,hq,hq1,hq2⟩:=wy TK hof;have Ry:us.drop e.size=[]:=by cases hd0:us.drop e.size with|nil=>rfl|cons _ _=>rw[hd0]at hq2;exact hq2.elim
 rw[Ry]at hq2;have ahh:q2=[]:=hq2;subst ahh;rw[bV]at hq;subst hq;have hus:us.take e.size=us:=by have:=cl e.size us;rw[Ry,bV]at this;exact this
 rw[hus]at hq1;have hul:us.length=e.size:=ff.length hq1;have ti:o2+(k+1)*e.size<=arr.size:=by rw[hs];exact Nat.add_le_add_left (cu _ (by omega)) _
 have YA:o2+k*e.size+e.size<=arr.size:=by rw[cy,fb]at ti;omega
 let w':=sN w b2 (eC arr (o2+k*e.size+0) us) T' fr;have DY:=lB jL;have UX:∀c,c≠b2->w'.heap[c]?=w.heap[c]?:=λc hc=>lW hc;have an6:=TK.length;have RJ:=Bz (P:=P) (w:=w) (hE T sh hT) b2 (o2+k*e.size+0) fi (by omega) (λu hu=>ff.my hq1 u hu) jL qZ;have ee:(execOp a.eval o).run P w=.ok .skip w':=by simp only[execOp,ho,hv,Instr.storeAt,Instr.sureAddr,Sem.run_bind,Sem.run_pure,Result.andThen_ok];show((storeVar T ⟨b2,o2+k*e.size+0,none⟩ (a.eval x)).run P w).andThen _=_;rw[RJ];rfl
 have E9:=Cl hfk;have uJ:b2∉fps.flatten:=by rw[AW]at AJ;exact(db.1 AJ).1
 have hnf:fps.flatten.Nodup:=by rw[AW]at AJ;exact(db.1 AJ).2
 have Mj:∀c∈fh,c∉f2:=by intro c hc hm;have h1:=RE c hc;rw[xY c hm]at h1;cases rt<;>cases h1
 have aiX:∀c∈fh,c≠b2:=λc hc e=>Mj c hc (by rw[AW,e];simp);have af5:∀c,c∈(fps.set k fh).flatten↔c∈fps.flatten\/c∈fh:=by intro c;rw[E9.2,E9.1];simp only[ay,List.not_mem_nil,or_false];constructor;rintro((h|h)|h)<;>simp[h];rintro((h|h)|h)<;>simp[h]
 have ab8:ff g'.hw w' (.sl e) [v0] (xs.set k x') (b2::(fps.set k fh).flatten):=by
  refine⟨v0,rfl,.inr ⟨b2,o2,T6,eC arr (o2+k*e.size+0) us,T',fr,fps.set k fh,by rw[KB];simp,vk DY,λj hj=>qZ j (by rwa[ij]at hj),by rw[ij];exact hs,by simpa using hc,by rw[aC];exact hh,rfl,by simp[hl],?_⟩⟩;intro j y f hy hf;by_cases hjk:j=k;subst hjk;rw[br]at hy hf;simp only[bN,hkl]at hy;simp only[bN]at hf;rw[zip]at hf;simp at hy hf;subst hy;subst hf;rw[Gg (by omega) YA];have e1:((arr.toList.drop (o2+j*e.size)).take e.size).take 0++us++((arr.toList.drop (o2+j*e.size)).take e.size).drop (0+us.length)=us:=by rw[List.take_zero,cA,cK (by simp;omega),bV]
  rw[e1];exact ff.mono hq1 (λc hc=>⟨UX c (aiX c hc),rfl⟩);rw[aO (cO hjk)]at hy hf;rw[Ec (by omega) ti hjk];refine ff.mono (hr j y f hjk hy hf) (λc hc=>⟨UX c (λe0=>uJ ?_),rfl⟩);rw[<-e0];exact List.mem_flatten.2 ⟨f,bn hf,hc⟩
 have ans:(b2::(fps.set k fh).flatten).Nodup:=by
  refine db.2 ⟨λhm=>?_,?_⟩;rcases(af5 b2).1 hm with h|h;exact uJ h;exact aiX b2 h rfl;rw[E9.2];rw[E9.1,bV]at hnf;have m:=aI.1 hnf;have aiZ:∀c,c∈(fps.take k).flatten\/c∈(fps.drop (k+1)).flatten->c∈f2:=by intro c hc;rw[AW,E9.1];rcases hc with hc|hc<;>simp[hc]
  refine aI.2 ⟨aI.2 ⟨m.1,L6,?_⟩,m.2.1,?_⟩;rintro c hc d hd rfl;exact Mj c hd (aiZ c (.inl hc));rintro c hc d hd rfl;rcases ay.1 hc with hc|hc;exact m.2.2 c hc c hd rfl;exact Mj c hc (aiZ c (.inr hd))
 have anl:i.toNat=k:=by omega
 rw[anl]at hk
 obtain⟨g2,EH⟩:=pC w' g'.hw (.sl (.own (some t')) e (xs.set k x')) (b2::(fps.set k fh).flatten) (λc' hle Qx DP=>⟨by rw[Qx,DP];exact ab8,λt ht=>by simp at ht;subst ht;have h0:=ajk t' rfl;exact⟨(hle.hdr t' h0.1).1,by rw[(hle.hdr t' h0.1).2];exact h0.2⟩⟩) ans (λc hc=>by
  show _<(sN _ _ _ _ _).heap.size/\_
  rw[kY]
  rcases bO.1 hc with rfl|hc
  ·exact⟨DY,.inl (by rw[AW];simp)⟩
  ·rcases(af5 c).1 hc with h|h
   ·have:c∈f2:=by rw[AW];simp[h]
    exact⟨(nm.fS c _ (xY c this)).1,.inl this⟩
   ·exact⟨(nm.fS c _ (RE c h)).1,.inr (by rw[RE c h];rfl)⟩)
  ⟨rfl,rfl,rfl,by show _<=(sN _ _ _ _ _).heap.size;rw[kY];exact aU _,λc _ hc=>UX c (λe=>hc (.inr (by rw[AW,e];simp)))⟩ (λ_ _ _ _ _=>rfl)
 refine⟨undef,_,_,.inr ⟨rfl,ee⟩,?_,hk⟩;rw[hd];exact⟨g2,EH⟩
theorem MK {E:Env}(hE:ja P E.ty){o:Oper}{p x:Operand}(hd:o.dst=none)(ho:o.op=.store T p x)(h:np C st a w){K:AS->ax R}{ep t:Nat}{y:e.D}{bH:AS}(hT:iR E.ty T=some sh)(hp:st.rd p=.val false [.zM (.loc ep (some (rt,t))) e y i off])(rk:st.take x=(.val gg vs,bH))(hlen:vs.length=sh.ct.size)(gw:off+sh.ct.size<=e.size)(hk:bH.oz rt t e i off vs K=some r):ma P C o a w K r:=by
 obtain⟨g,hg⟩:=h;have th:=hg.rd p;rw[hp]at th;obtain⟨_,b,ob,hv,_,_,D0⟩:=ew th;obtain⟨_,n,o0,len,cap,sJ,hrt,Im,hob⟩:=D0 rt t rfl;obtain⟨g',⟨Hg,Dp,Mk,_⟩,nm⟩:=hg.adY x;rw[rk]at nm;unfold AS.oz at hk;split at hk;rename_i t' e' xs gI;split at hk;rename_i hee;subst hee;split at hk
 ·rename_i htt
  subst htt
  simp only at hk
  cases Ct:idx xs i with
  |none=>rw[Ct]at hk;simp[aa]at hk
  |some x0=>
  rw[Ct]at hk
  simp only[aa]at hk
  split at hk
  ·rename_i x' hof
   obtain⟨n',BP,hx0⟩:=RL Ct
   have Kt:n'=n:=by omega
   subst Kt
   obtain⟨v0,f2,Nn,gE,AJ,xY,pC⟩:=nm.P1 rt gI
   have Nn: .slice (some ⟨b,o0,none⟩) len cap=v0:=by have h1:=Nn t' rfl;have h2:g.hdr t'=.slice (some ⟨b,o0,none⟩) len cap:=hrt;rw[h1,Mk,h2]
   obtain⟨b2,o2,T6,arr,T',fr,f1,fx,f3,KB,jL,qZ,ti,Kx,BM,Cy⟩:=ac3 gE hx0
   rw[<-Nn]at KB
   simp only[Value.slice.injEq,aZ,Addr.mk.injEq]at KB
   obtain⟨⟨rfl,rfl,_⟩,_⟩:=KB
   obtain⟨fh,⟨us,fi,TK⟩,L6,RE⟩:=nm.hands 0 _ _ rfl
   have hul:=TK.length
   have af4:off+us.length<=e'.size:=by omega
   have YA:(o0+n'*e'.size)+e'.size<=arr.size:=by rw[cy,fb]at ti;omega
   have aje:=yd (c:=cH C g' bH w) Kx
   obtain⟨k1,k2,k3,hkx,r1,r2,r3⟩:=aje.mid off us.length
   have aiW:=AJ
   rw[BM]at aiW
   have uJ:=db.1 aiW
   have Mj:∀c∈fh,c∉f2:=by intro c hc hm;have h1:=RE c hc;rw[xY c hm]at h1;cases rt<;>cases h1
   let w':=sN w b (eC arr ((o0+n'*e'.size)+off) us) T' fr
   have DY:=lB jL
   have UX:∀c,c≠b->w'.heap[c]?=w.heap[c]?:=λc hc=>lW hc
   have ahk:∀u∈us,u.oneCell'=true:=by
    have Hf:bB (cH C g' bH w) (((arr.toList.drop (o0+n'*e'.size)).take e'.size).take off++us++((arr.toList.drop (o0+n'*e'.size)).take e'.size).drop (off+us.length))
     (dZ (cellsOf e' (.own none) x0) off vs) (k1++fh++k3):=by
     have e2:dZ (cellsOf e' (.own none) x0) off vs=(cellsOf e' (.own none) x0).take off++vs++(cellsOf e' (.own none) x0).drop (off+us.length):=by simp only[dZ];rw[hul]
     rw[e2]
     exact(r1.append TK).append r3
    obtain⟨q1,q2,hq,hq1,hq2⟩:=wy Hf hof;have ai5:(((arr.toList.drop (o0+n'*e'.size)).take e'.size).take off++us++((arr.toList.drop (o0+n'*e'.size)).take e'.size).drop (off+us.length)).length=e'.size:=by rw[Hf.length,Ei (by rw[kq];omega),kq]
    rw[bK (by omega)]at hq1;intro u hu;exact ff.my hq1 u (by simp[hu])
   have RJ:=Bz (P:=P) (w:=w) (hE T sh hT) b ((o0+n'*e'.size)+off) fi (by omega) ahk jL qZ
   have ee:(execOp a.eval o).run P w=.ok .skip w':=by simp only[execOp,ho,hv,Instr.storeAt,Instr.sureAddr,Sem.run_bind,Sem.run_pure,Result.andThen_ok];show((storeVar T ⟨b,ob+off,none⟩ (a.eval x)).run P w).andThen _=_;rw[hob,RJ];rfl
   have hle:(cH C g' bH w).Le ⟨g'.hw,g'.β,C.A,g'.hdr,md bH,bH.ep+1,iS bH,w'⟩:=by
    refine⟨rfl,λ_ ht=>⟨ht,rfl⟩,λk c o u hA hu=>?_,Nat.le_succ _,λ_ hs=>⟨hs,rfl⟩,λhe=>absurd he (Nat.succ_ne_self _)⟩;have AY:c≠b:=by rintro rfl;exact nm.KR (xY c (by rw[BM];simp)) k o hA
    rw[World.cell?_of_block (a:=⟨c,o,none⟩) (UX c AY)];exact hu
   have ai2:∀c∈fx,c≠b:=by rintro c hc rfl;exact uJ.1 (by simp[hc])
   have Hf:bB ⟨g'.hw,g'.β,C.A,g'.hdr,md bH,bH.ep+1,iS bH,w'⟩
    (((eC arr ((o0+n'*e'.size)+off) us).toList.drop (o0+n'*e'.size)).take e'.size) (dZ (cellsOf e' (.own none) x0) off vs) (k1++fh++k3):=by
    have e2:dZ (cellsOf e' (.own none) x0) off vs=(cellsOf e' (.own none) x0).take off++vs++(cellsOf e' (.own none) x0).drop (off+us.length):=by simp only[dZ];rw[hul]
    rw[e2,Gg af4 YA]
    refine((r1.mono hle (λc hc=>⟨UX c (ai2 c (by rw[hkx];simp[hc])),rfl⟩)).append
     (TK.mono hle (λc hc=>⟨UX c (λe=>Mj c hc (by rw[BM,e];simp)),rfl⟩))).append
     (r3.mono hle (λc hc=>⟨UX c (ai2 c (by rw[hkx];simp[hc])),rfl⟩))
   obtain⟨q1,q2,hq,hq1,hq2⟩:=wy Hf hof
   have ai5:(((eC arr ((o0+n'*e'.size)+off) us).toList.drop (o0+n'*e'.size)).take e'.size).length=e'.size:=by rw[Hf.length,Ei (by rw[kq];omega),kq]
   rw[cK (by omega)]at hq2
   have ahh:q2=[]:=hq2
   subst ahh
   rw[bK (by omega)]at hq1
   rw[bV]at hq
   have ab8:=Cy w' us off x' q1 af4 (vk DY) (λc hc=>UX c (λe=>uJ.1 (by rw[<-e];rcases ay.1 hc with k|k<;>simp[k]))) hq1
   have AX:∀c∈b::(f1++q1++f3),c∈f2\/c∈fh:=by intro c hc;rw[<-hq]at hc;simp only[bO,ay]at hc;rw[BM,hkx];simp only[bO,ay];rcases hc with hc|((hc|((hc|hc)|hc))|hc)<;>simp[hc]
   have Dq:(b::(f1++q1++f3)).Nodup:=by
    have Xb:=uJ.2;rw[hkx]at Xb;rw[aQ]at Xb;have m1:=aI.1 Xb;have m2:=aI.1 m1.2.1;have m2a:=m2.1;rw[aQ]at m2a;have m3:=aI.1 m2a;have m4:=aI.1 m3.2.1;have inx:∀c,(c∈f1\/c∈k1\/c∈k3\/c∈f3)->c∈f2:=by intro c hc;rw[BM,hkx];simp only[bO,ay];rcases hc with hc|hc|hc|hc<;>simp[hc]
    rw[<-hq];refine db.2 ⟨λhm=>?_,?_⟩;simp only[ay]at hm;rcases hm with(hm|((hm|hm)|hm))|hm;exact uJ.1 (by simp[hm]);exact uJ.1 (by rw[hkx];simp[hm]);exact Mj b hm (by rw[BM];simp);exact uJ.1 (by rw[hkx];simp[hm]);exact uJ.1 (by simp[hm]);rw[aQ];refine aI.2 ⟨m1.1,aI.2 ⟨?_,m2.2.1,?_⟩,?_⟩;rw[aQ];refine aI.2 ⟨m3.1,aI.2 ⟨L6,m4.2.1,?_⟩,?_⟩;rintro c hc d hd rfl;exact Mj c hc (inx c (by simp[hd]));rintro c hc d hd rfl;rcases ay.1 hd with hd|hd;exact Mj c hd (inx c (by simp[hc]));exact m3.2.2 c hc c (bj _ hd) rfl;rintro c hc d hd rfl;simp only[ay]at hc;rcases hc with(hc|hc)|hc;exact m2.2.2 c (by simp[hc]) c hd rfl;exact Mj c hc (inx c (by simp[hd]));exact m2.2.2 c (by simp[hc]) c hd rfl;rintro c hc d hd rfl;simp only[ay]at hd;rcases hd with((hd|hd)|hd)|hd;exact m1.2.2 c hc c (by simp[hd]) rfl;exact Mj c hd (inx c (by simp[hc]));exact m1.2.2 c hc c (by simp[hd]) rfl;exact m1.2.2 c hc c (by simp[hd]) rfl
   have agW:Fr (λc=>dE (g'.ej c)\/c∈f2) w w':=⟨rfl,rfl,rfl,by show _<=(sN _ _ _ _ _).heap.size;rw[kY];exact aU _,λc _ hc=>UX c (λe=>hc (.inr (by rw[BM,e];simp)))⟩
   obtain⟨g2,EH⟩:=pC w' g'.hw (xs.set n' x') (b::(f1++q1++f3)) ab8 Dq (λc hc=>by rcases AX c hc with k|k;exact⟨by show _<(sN _ _ _ _ _).heap.size;rw[kY];exact(nm.fS c _ (xY c k)).1,.inl k⟩;exact⟨by show _<(sN _ _ _ _ _).heap.size;rw[kY];exact(nm.fS c _ (RE c k)).1,.inr (by rw[RE c k];rfl)⟩) agW (λ_ _ _ _ _=>rfl)
   refine⟨undef,_,_,.inr ⟨rfl,ee⟩,?_,hk⟩
   rw[hd]
   have agY:i.toNat=n':=by omega
   rw[agY]
   exact⟨g2,EH⟩
  ·cases hk
 cases hk;cases hk;rename_i t' i' q e' xs gI;split at hk;rename_i hee;subst hee;split at hk;rename_i hc;obtain⟨rfl,rfl⟩:=hc;simp only at hk;cases Ct:YB xs i' i with|none=>rw[Ct]at hk;simp[aa]at hk|some x0=>obtain⟨rfl,aoc⟩:=YC Ct;rw[Ct]at hk;simp only[aa]at hk;split at hk;rename_i x' hof;exact Mf hE hd ho hT hlen nm (by rw[hv,hob,dT]) (by rw[Mk];exact hrt) sJ gI hof hk;cases hk
 cases hk;cases hk;cases hk
theorem Wp {E:Env}(hE:ja P E.ty){o:Oper}{p x:Operand}(hd:o.dst=none)(ho:o.op=.store T p x)(h:np C st a w){K:AS->ax R}(hk:vi E T p x st K=some r):ma P C o a w K r:=by unfold vi at hk;split at hk;rename_i sh s off hT hp;split at hk;rename_i gg vs bH rk;split at hk;rename_i cs ju;split at hk;rename_i hlen;split at hk;rename_i gw;exact MI hE hd ho h hT hp rk ju hlen.1 hlen.2 gw hk;cases hk;cases hk;cases hk;cases hk;rename_i sh ep rt t e y i off hT hp;split at hk;rename_i gg vs bH rk;split at hk;rename_i hc;exact MK hE hd ho h hT hp rk hc.1 hc.2 hk;cases hk;cases hk;cases hk
end Go.Dn
