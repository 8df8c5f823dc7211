import Derived.Test.YthllnaiaikjelaaGreatDnOps2
/- Part 3: an element of an owned slice is written. -/
namespace Go.Dn
open Go.RowKit
variable {P:Program} {C:Ctx} {st:AS} {a:Act} {w:World} {R:Type} {r:R}
variable {arr:Array Value} {gg:Bool} {e:CT} {off:Nat} {rt:lW} {sh:Shape} {T:TypeId} {vs:ar AC} {us:iW}
theorem Er {o:Nat}(h:o+us.length<=arr.size)(j:Nat): (eY arr o us).toList[j]?=if o<=j/\j<o+us.length then us[j-o]? else arr.toList[j]?:=by
 rw[BN us arr o h];have hl:(arr.toList.take o).length=o:=by rw[bm];simp;omega
 by_cases h1:j<o;rw[ny,aX,bI (by omega),dp,aM h1];by_cases h2:j<o+us.length;rw[zip,aX,bw (by omega),hl,bI (by omega)];rw[ny,bw (by rw[ay];omega),ay,hl,bR];congr 1;omega
theorem ky {l:iW}(p n j:Nat):((l.drop p).take n)[j]?=if j<n then l[p+j]? else none:=by rw[dp];split;rw[bR];rfl
theorem Oo {o0 size n i:Nat}(Xd:off+us.length<=size)(hn:o0+(n+1)*size<=arr.size)(hi:i≠n): ((eY arr (o0+n*size+off) us).toList.drop (o0+i*size)).take size=(arr.toList.drop (o0+i*size)).take size:=by
 have Fq:o0+n*size+size<=arr.size:=by rw[cx,eH]at hn;omega
 apply cW;intro j;rw[ky,ky];split;rename_i hj;rw[Er (by omega),aK];intro hc;rcases Nat.lt_or_gt_of_ne hi with h|h;have:(i+1)*size<=n*size:=cD _ h;rw[cx,eH]at this;omega;have:(n+1)*size<=i*size:=cD _ h;rw[cx,eH]at this;omega;rfl
theorem QB {p size:Nat}(Xd:off+us.length<=size)(Fq:p+size<=arr.size): ((eY arr (p+off) us).toList.drop p).take size= ((arr.toList.drop p).take size).take off++us++((arr.toList.drop p).take size).drop (off+us.length):=by
 have hl:((arr.toList.drop p).take size).length=size:=by simp;omega
 have ER:(((arr.toList.drop p).take size).take off).length=off:=by rw[bm,hl];omega
 apply cW;intro j;rw[ky];by_cases hj:j<size;rw[aM hj,Er (by omega)];by_cases h1:j<off;rw[ny,aX,bI (by omega),dp,aM h1,ky,aM hj];by_cases h2:j<off+us.length;rw[zip,aX,bw (by omega),ER,bI (by omega)];congr 1;omega;rw[ny,bw (by rw[ay];omega),ay,ER,bR,ky,show off+us.length+(j-(off+us.length))=j by omega,aM hj];rw[aK hj,bL];simp only[ay,ER,bl,hl];omega
theorem anf {hw:Nat->Nat}{w:World}{v:Value}{xs:ar e.D}{fp0:ei}(h:eU hw w (.sl e) [v] xs fp0){n:Nat}{x:e.D}(hx:xs[n]?=some x): ∃b o0 cap arr T fr f1 fx f3,v=.slice (some ⟨b,o0,none⟩) xs.length cap/\w.heap[b]?=some (.cells arr T fr)/\tp arr fr/\o0+(n+1)*e.size<=arr.size/\ eU hw w e ((arr.toList.drop (o0+n*e.size)).take e.size) x fx/\fp0=b::(f1++fx++f3)/\ ∀(w':World)(us:iW)(off:Nat)(x':e.D)(fx':ei),off+us.length<=e.size->w'.heap[b]?=some (.cells (eY arr (o0+n*e.size+off) us) T fr)-> (∀b'∈f1++f3,w'.heap[b']?=w.heap[b']?)->eU hw w' e (((eY arr (o0+n*e.size+off) us).toList.drop (o0+n*e.size)).take e.size) x' fx'-> eU hw w' (.sl e) [v] (xs.set n x') (b::(f1++fx'++f3)):=by
 obtain⟨u,hu,h⟩:=h;simp at hu;subst hu;have PA:n<xs.length:=(aJ.1 hx).1;rcases h with⟨⟨_,rfl⟩,rfl,rfl⟩|⟨b,o0,cap,arr,T,fr,fps,rfl,hb,uI,hs,hc,hh,rfl,hl,hr⟩;simp at hx;have Ua:fps[n]?=some fps[n]:=al (by omega);have NU:=HO Ua;have hm:o0+(n+1)*e.size<=arr.size:=by rw[hs];exact Nat.add_le_add_left (cD _ (by omega)) _
 refine⟨b,o0,cap,arr,T,fr,(fps.take n).flatten,fps[n],(fps.drop (n+1)).flatten,rfl,hb,uI,hm,hr n x _ hx Ua,by rw[NU.1],?_⟩;intro w' us off x' fx' Xd ig hk fB;refine⟨_,rfl,.inr ⟨b,o0,cap,eY arr (o0+n*e.size+off) us,T,fr,fps.set n fx',by simp,ig,λj hj=>uI j (by rwa[js]at hj),by rw[js];exact hs,by simpa using hc,by simpa using hh,by rw[NU.2],by simp[hl],?_⟩⟩;intro i y f hy hf;by_cases vG:i=n;subst vG;rw[bu]at hy hf;simp only[cd,PA]at hy;simp only[cd]at hf;rw[zip]at hf;simp at hy hf;subst hy;subst hf;exact fB;rw[aZ (cX vG)]at hy hf;rw[Oo Xd hm vG];refine eU.mono (hr i y f hy hf) (λb' alZ=>⟨hk b' ?_,rfl⟩);have Vq:i<fps.length:=(aJ.1 hf).1;have hfi:fps[i]=f:=by rw[al Vq]at hf;simpa using hf
 rcases Nat.lt_or_gt_of_ne vG with iJ|hgt;refine br _ (List.mem_flatten.2 ⟨f,?_,alZ⟩);rw[List.mem_take_iff_getElem];exact⟨i,by omega,hfi⟩;refine bh _ (List.mem_flatten.2 ⟨f,?_,alZ⟩);rw[List.mem_drop_iff_getElem];exact⟨i-(n+1),by omega,by rw[<-hfi];congr 1;omega⟩
theorem Vw {α:Type}{xs:ar α}{i:Int}{x:α}(h:idx xs i=some x):∃n:Nat,i=n/\xs[n]?=some x:=by cases i with|ofNat n=>exact⟨n,rfl,h⟩|negSucc n=>simp[idx]at h
theorem Xa {E:Env}(hE:kG P E.ty){o:Oper}{p x:Operand}(hd:o.dst=none)(ho:o.op=.store T p x){K:AS->au R}{t':Nat}{i:Int}{st':AS}{g':Gh}(hT:jU E.ty T=some sh)(hlen:vs.length=sh.ct.size)(oY:dN C g' st' a w [(a.eval x,.val gg vs)]){b o0 len cap n:Nat}{q:au Nat}{xs:ar e.D}{x':e.D}(hv:a.eval p=.pointer (some ⟨b,o0+n*e.size,none⟩))(hrt:g'.hdr t'=.slice (some ⟨b,o0,none⟩) len cap)(vG:i=n)(iP:st'.fj rt=some (.sl (.fL (some t') i q) e xs))(hof:jP e vs=some (x',[]))(hk:K {st'.fD rt (.sl (.own (some t')) e (xs.set i.toNat x'))with ep:=st'.ep+1}=some r):pa P C o a w K r:=by
 obtain⟨v0,f2,ee,Dc,ER,nk⟩:=oY.aaR rt (by simp) iP;obtain⟨_,⟨k,hik,fB⟩,arV⟩:=ee;have hkn:k=n:=by omega
 subst hkn;obtain⟨b2,o2,abG,arr,T',fr,fps,SW,kL,uI,hs,hc,hh,JF,hl,hkl,hfk,hr⟩:=fB;have kL:w.heap[b2]?=some (.cells arr T' fr):=kL;have h1:v0=g'.hdr t':=(arV t' rfl).2;rw[hrt,SW]at h1;simp only[Value.slice.injEq,bf,Addr.mk.injEq]at h1;obtain⟨⟨rfl,rfl,_⟩,_⟩:=h1;obtain⟨fh,⟨us,eP,hrh⟩,SV,hlh⟩:=oY.hands 0 _ _ rfl;obtain⟨q1,q2,hq,hq1,hq2⟩:=rh hrh hof;have acn:us.drop e.size=[]:=by cases hd0:us.drop e.size with|nil=>rfl|cons _ _=>rw[hd0]at hq2;exact hq2.elim
 rw[acn]at hq2;have aml:q2=[]:=hq2;subst aml;rw[bD]at hq;subst hq;have Xg:us.take e.size=us:=by have:=cK e.size us;rw[acn,bD]at this;exact this
 rw[Xg]at hq1;have hul:us.length=e.size:=eU.length hq1;have xx:o2+(k+1)*e.size<=arr.size:=by rw[hs];exact Nat.add_le_add_left (cD _ (by omega)) _
 have ajd:o2+k*e.size+e.size<=arr.size:=by rw[cx,eH]at xx;omega
 let w':=zB w b2 (eY arr (o2+k*e.size+0) us) T' fr;have LU:=oo kL;have Yl:∀c,c≠b2->w'.heap[c]?=w.heap[c]?:=λc hc=>oW hc;have aAH:=hrh.length;have acv:=KS (P:=P) (w:=w) (hE T sh hT) b2 (o2+k*e.size+0) eP (by omega) (λu hu=>eU.py hq1 u hu) kL uI;have ez:(execOp a.eval o).run P w=.ok .skip w':=by simp only[execOp,ho,hv,Instr.storeAt,Instr.sureAddr,Sem.run_bind,Sem.run_pure,Result.andThen_ok];show((storeVar T ⟨b2,o2+k*e.size+0,none⟩ (a.eval x)).run P w).andThen _=_;rw[acv];rfl
 have NU:=HO hfk;have xk:b2∉fps.flatten:=by rw[JF]at Dc;exact(di.1 Dc).1
 have hnf:fps.flatten.Nodup:=by rw[JF]at Dc;exact(di.1 Dc).2
 have Xc:∀c∈fh,c∉f2:=by intro c hc hm;have h1:=hlh c hc;rw[ER c hm]at h1;cases rt<;>cases h1
 have arB:∀c∈fh,c≠b2:=λc hc e=>Xc c hc (by rw[JF,e];simp);have SS:∀c,c∈(fps.set k fh).flatten↔c∈fps.flatten\/c∈fh:=by intro c;rw[NU.2,NU.1];simp only[aA,List.not_mem_nil,or_false];constructor;rintro((h|h)|h)<;>simp[h];rintro((h|h)|h)<;>simp[h]
 have ami:eU g'.hw w' (.sl e) [v0] (xs.set k x') (b2::(fps.set k fh).flatten):=by
  refine⟨v0,rfl,.inr ⟨b2,o2,abG,eY arr (o2+k*e.size+0) us,T',fr,fps.set k fh,by rw[SW];simp,C6 LU,λj hj=>uI j (by rwa[js]at hj),by rw[js];exact hs,by simpa using hc,by rw[aL];exact hh,rfl,by simp[hl],?_⟩⟩;intro j y f hy hf;by_cases hjk:j=k;subst hjk;rw[bu]at hy hf;simp only[cd,hkl]at hy;simp only[cd]at hf;rw[zip]at hf;simp at hy hf;subst hy;subst hf;rw[QB (by omega) ajd];have e1:((arr.toList.drop (o2+j*e.size)).take e.size).take 0++us++((arr.toList.drop (o2+j*e.size)).take e.size).drop (0+us.length)=us:=by rw[List.take_zero,bH,dk (by simp;omega),bD]
  rw[e1];exact eU.mono hq1 (λc hc=>⟨Yl c (arB c hc),rfl⟩);rw[aZ (cX hjk)]at hy hf;rw[Oo (by omega) xx hjk];refine eU.mono (hr j y f hjk hy hf) (λc hc=>⟨Yl c (λe0=>xk ?_),rfl⟩);rw[<-e0];exact List.mem_flatten.2 ⟨f,bM hf,hc⟩
 have aAf:(b2::(fps.set k fh).flatten).Nodup:=by
  refine di.2 ⟨λhm=>?_,?_⟩;rcases(SS b2).1 hm with h|h;exact xk h;exact arB b2 h rfl;rw[NU.2];rw[NU.1,bD]at hnf;have m:=aG.1 hnf;have aqu:∀c,c∈(fps.take k).flatten\/c∈(fps.drop (k+1)).flatten->c∈f2:=by intro c hc;rw[JF,NU.1];rcases hc with hc|hc<;>simp[hc]
  refine aG.2 ⟨aG.2 ⟨m.1,SV,?_⟩,m.2.1,?_⟩;rintro c hc d hd rfl;exact Xc c hd (aqu c (.inl hc));rintro c hc d hd rfl;rcases aA.1 hc with hc|hc;exact m.2.2 c hc c hd rfl;exact Xc c hc (aqu c (.inr hd))
 have az6:i.toNat=k:=by omega
 rw[az6]at hk
 obtain⟨g2,O1⟩:=nk w' g'.hw (.sl (.own (some t')) e (xs.set k x')) (b2::(fps.set k fh).flatten) (λc' hle TF GH=>⟨by rw[TF,GH];exact ami,λt ht=>by simp at ht;subst ht;have h0:=arV t' rfl;exact⟨(hle.hdr t' h0.1).1,by rw[(hle.hdr t' h0.1).2];exact h0.2⟩⟩) aAf (λc hc=>by
  show _<(zB _ _ _ _ _).heap.size/\_
  rw[nG]
  rcases cq.1 hc with rfl|hc
  ·exact⟨LU,.inl (by rw[JF];simp)⟩
  ·rcases(SS c).1 hc with h|h
   ·have:c∈f2:=by rw[JF];simp[h]
    exact⟨(oY.fW c _ (ER c this)).1,.inl this⟩
   ·exact⟨(oY.fW c _ (hlh c h)).1,.inr (by rw[hlh c h];rfl)⟩)
  ⟨rfl,rfl,rfl,by show _<=(zB _ _ _ _ _).heap.size;rw[nG];exact ba _,λc _ hc=>Yl c (λe=>hc (.inr (by rw[JF,e];simp)))⟩ (λ_ _ _ _ _=>rfl)
 refine⟨undef,_,_,.inr ⟨rfl,ez⟩,?_,hk⟩;rw[hd];exact⟨g2,O1⟩
theorem XE {E:Env}(hE:kG P E.ty){o:Oper}{p x:Operand}(hd:o.dst=none)(ho:o.op=.store T p x)(h:pL C st a w){K:AS->au R}{ep t:Nat}{y:e.D}{i:Int}{st':AS}(hT:jU E.ty T=some sh)(hp:st.rd p=.val false [.HM (.loc ep (some (rt,t))) e y i off])(xC:st.take x=(.val gg vs,st'))(hlen:vs.length=sh.ct.size)(iB:off+sh.ct.size<=e.size)(hk:st'.sM rt t e i off vs K=some r):pa P C o a w K r:=by
 obtain⟨g,hg⟩:=h;have Ab:=hg.rd p;rw[hp]at Ab;obtain⟨_,b,ob,hv,_,_,N9⟩:=eI Ab;obtain⟨_,n,o0,len,cap,vG,hrt,PA,hob⟩:=N9 rt t rfl;obtain⟨g',⟨O4,GL,P4,_⟩,oY⟩:=hg.an8 x;rw[xC]at oY;unfold AS.sM at hk;split at hk;rename_i t' e' xs iP;split at hk;rename_i hee;subst hee;split at hk
 ·rename_i htt
  subst htt
  simp only at hk
  cases JY:idx xs i with
  |none=>rw[JY]at hk;simp[aa]at hk
  |some x0=>
  rw[JY]at hk
  simp only[aa]at hk
  split at hk
  ·rename_i x' hof
   obtain⟨n',Fq,hx0⟩:=Vw JY
   have O2:n'=n:=by omega
   subst O2
   obtain⟨v0,f2,Yo,fB,Dc,ER,nk⟩:=oY.aaS rt iP
   have Yo: .slice (some ⟨b,o0,none⟩) len cap=v0:=by have h1:=Yo t' rfl;have h2:g.hdr t'=.slice (some ⟨b,o0,none⟩) len cap:=hrt;rw[h1,P4,h2]
   obtain⟨b2,o2,abG,arr,T',fr,f1,fx,f3,SW,kL,uI,xx,N7,HD,IA⟩:=anf fB hx0
   rw[<-Yo]at SW
   simp only[Value.slice.injEq,bf,Addr.mk.injEq]at SW
   obtain⟨⟨rfl,rfl,_⟩,_⟩:=SW
   obtain⟨fh,⟨us,eP,hrh⟩,SV,hlh⟩:=oY.hands 0 _ _ rfl
   have hul:=hrh.length
   have apS:off+us.length<=e'.size:=by omega
   have ajd:(o0+n'*e'.size)+e'.size<=arr.size:=by rw[cx,eH]at xx;omega
   have amo:=wE (c:=cP C g' st' w) N7
   obtain⟨k1,k2,k3,hkx,r1,r2,r3⟩:=amo.mid off us.length
   have arA:=Dc
   rw[HD]at arA
   have xk:=di.1 arA
   have Xc:∀c∈fh,c∉f2:=by intro c hc hm;have h1:=hlh c hc;rw[ER c hm]at h1;cases rt<;>cases h1
   let w':=zB w b (eY arr ((o0+n'*e'.size)+off) us) T' fr
   have LU:=oo kL
   have Yl:∀c,c≠b->w'.heap[c]?=w.heap[c]?:=λc hc=>oW hc
   have aqL:∀u∈us,u.oneCell'=true:=by
    have P9:bE (cP C g' st' w) (((arr.toList.drop (o0+n'*e'.size)).take e'.size).take off++us++((arr.toList.drop (o0+n'*e'.size)).take e'.size).drop (off+us.length))
     (dw (cellsOf e' (.own none) x0) off vs) (k1++fh++k3):=by
     have e2:dw (cellsOf e' (.own none) x0) off vs=(cellsOf e' (.own none) x0).take off++vs++(cellsOf e' (.own none) x0).drop (off+us.length):=by simp only[dw];rw[hul]
     rw[e2]
     exact(r1.append hrh).append r3
    obtain⟨q1,q2,hq,hq1,hq2⟩:=rh P9 hof;have arI:(((arr.toList.drop (o0+n'*e'.size)).take e'.size).take off++us++((arr.toList.drop (o0+n'*e'.size)).take e'.size).drop (off+us.length)).length=e'.size:=by rw[P9.length,OC (by rw[mF];omega),mF]
    rw[bN (by omega)]at hq1;intro u hu;exact eU.py hq1 u (by simp[hu])
   have acv:=KS (P:=P) (w:=w) (hE T sh hT) b ((o0+n'*e'.size)+off) eP (by omega) aqL kL uI
   have ez:(execOp a.eval o).run P w=.ok .skip w':=by simp only[execOp,ho,hv,Instr.storeAt,Instr.sureAddr,Sem.run_bind,Sem.run_pure,Result.andThen_ok];show((storeVar T ⟨b,ob+off,none⟩ (a.eval x)).run P w).andThen _=_;rw[hob,acv];rfl
   have hle:(cP C g' st' w).Le ⟨g'.hw,g'.β,C.A,g'.hdr,nr st',st'.ep+1,ij st',w'⟩:=by
    refine⟨rfl,λ_ ht=>⟨ht,rfl⟩,λk c o u hA hu=>?_,Nat.le_succ _,λ_ hs=>⟨hs,rfl⟩,λhe=>absurd he (Nat.succ_ne_self _)⟩;have JG:c≠b:=by rintro rfl;exact oY.RX (ER c (by rw[HD];simp)) k o hA
    rw[World.cell?_of_block (a:=⟨c,o,none⟩) (Yl c JG)];exact hu
   have arF:∀c∈fx,c≠b:=by rintro c hc rfl;exact xk.1 (by simp[hc])
   have P9:bE ⟨g'.hw,g'.β,C.A,g'.hdr,nr st',st'.ep+1,ij st',w'⟩
    (((eY arr ((o0+n'*e'.size)+off) us).toList.drop (o0+n'*e'.size)).take e'.size) (dw (cellsOf e' (.own none) x0) off vs) (k1++fh++k3):=by
    have e2:dw (cellsOf e' (.own none) x0) off vs=(cellsOf e' (.own none) x0).take off++vs++(cellsOf e' (.own none) x0).drop (off+us.length):=by simp only[dw];rw[hul]
    rw[e2,QB apS ajd]
    refine((r1.mono hle (λc hc=>⟨Yl c (arF c (by rw[hkx];simp[hc])),rfl⟩)).append
     (hrh.mono hle (λc hc=>⟨Yl c (λe=>Xc c hc (by rw[HD,e];simp)),rfl⟩))).append
     (r3.mono hle (λc hc=>⟨Yl c (arF c (by rw[hkx];simp[hc])),rfl⟩))
   obtain⟨q1,q2,hq,hq1,hq2⟩:=rh P9 hof
   have arI:(((eY arr ((o0+n'*e'.size)+off) us).toList.drop (o0+n'*e'.size)).take e'.size).length=e'.size:=by rw[P9.length,OC (by rw[mF];omega),mF]
   rw[dk (by omega)]at hq2
   have aml:q2=[]:=hq2
   subst aml
   rw[bN (by omega)]at hq1
   rw[bD]at hq
   have ami:=IA w' us off x' q1 apS (C6 LU) (λc hc=>Yl c (λe=>xk.1 (by rw[<-e];rcases aA.1 hc with k|k<;>simp[k]))) hq1
   have JZ:∀c∈b::(f1++q1++f3),c∈f2\/c∈fh:=by intro c hc;rw[<-hq]at hc;simp only[cq,aA]at hc;rw[HD,hkx];simp only[cq,aA];rcases hc with hc|((hc|((hc|hc)|hc))|hc)<;>simp[hc]
   have J0:(b::(f1++q1++f3)).Nodup:=by
    have hx2:=xk.2;rw[hkx]at hx2;rw[aX]at hx2;have m1:=aG.1 hx2;have m2:=aG.1 m1.2.1;have m2a:=m2.1;rw[aX]at m2a;have m3:=aG.1 m2a;have m4:=aG.1 m3.2.1;have inx:∀c,(c∈f1\/c∈k1\/c∈k3\/c∈f3)->c∈f2:=by intro c hc;rw[HD,hkx];simp only[cq,aA];rcases hc with hc|hc|hc|hc<;>simp[hc]
    rw[<-hq];refine di.2 ⟨λhm=>?_,?_⟩;simp only[aA]at hm;rcases hm with(hm|((hm|hm)|hm))|hm;exact xk.1 (by simp[hm]);exact xk.1 (by rw[hkx];simp[hm]);exact Xc b hm (by rw[HD];simp);exact xk.1 (by rw[hkx];simp[hm]);exact xk.1 (by simp[hm]);rw[aX];refine aG.2 ⟨m1.1,aG.2 ⟨?_,m2.2.1,?_⟩,?_⟩;rw[aX];refine aG.2 ⟨m3.1,aG.2 ⟨SV,m4.2.1,?_⟩,?_⟩;rintro c hc d hd rfl;exact Xc c hc (inx c (by simp[hd]));rintro c hc d hd rfl;rcases aA.1 hd with hd|hd;exact Xc c hd (inx c (by simp[hc]));exact m3.2.2 c hc c (bh _ hd) rfl;rintro c hc d hd rfl;simp only[aA]at hc;rcases hc with(hc|hc)|hc;exact m2.2.2 c (by simp[hc]) c hd rfl;exact Xc c hc (inx c (by simp[hd]));exact m2.2.2 c (by simp[hc]) c hd rfl;rintro c hc d hd rfl;simp only[aA]at hd;rcases hd with((hd|hd)|hd)|hd;exact m1.2.2 c hc c (by simp[hd]) rfl;exact Xc c hd (inx c (by simp[hc]));exact m1.2.2 c hc c (by simp[hd]) rfl;exact m1.2.2 c hc c (by simp[hd]) rfl
   have aqs:Fr (λc=>dq (g'.eC c)\/c∈f2) w w':=⟨rfl,rfl,rfl,by show _<=(zB _ _ _ _ _).heap.size;rw[nG];exact ba _,λc _ hc=>Yl c (λe=>hc (.inr (by rw[HD,e];simp)))⟩
   obtain⟨g2,O1⟩:=nk w' g'.hw (xs.set n' x') (b::(f1++q1++f3)) ami J0 (λc hc=>by rcases JZ c hc with k|k;exact⟨by show _<(zB _ _ _ _ _).heap.size;rw[nG];exact(oY.fW c _ (ER c k)).1,.inl k⟩;exact⟨by show _<(zB _ _ _ _ _).heap.size;rw[nG];exact(oY.fW c _ (hlh c k)).1,.inr (by rw[hlh c k];rfl)⟩) aqs (λ_ _ _ _ _=>rfl)
   refine⟨undef,_,_,.inr ⟨rfl,ez⟩,?_,hk⟩
   rw[hd]
   have ame:i.toNat=n':=by omega
   rw[ame]
   exact⟨g2,O1⟩
  ·cases hk
 cases hk;cases hk;rename_i t' i' q e' xs iP;split at hk;rename_i hee;subst hee;split at hk;rename_i hc;obtain⟨rfl,rfl⟩:=hc;simp only at hk;cases JY:aje xs i' i with|none=>rw[JY]at hk;simp[aa]at hk|some x0=>obtain⟨rfl,aAM⟩:=ajf JY;rw[JY]at hk;simp only[aa]at hk;split at hk;rename_i x' hof;exact Xa hE hd ho hT hlen oY (by rw[hv,hob,dZ]) (by rw[P4];exact hrt) vG iP hof hk;cases hk
 cases hk;cases hk;cases hk
theorem ag6 {E:Env}(hE:kG P E.ty){o:Oper}{p x:Operand}(hd:o.dst=none)(ho:o.op=.store T p x)(h:pL C st a w){K:AS->au R}(hk:C3 E T p x st K=some r):pa P C o a w K r:=by unfold C3 at hk;split at hk;rename_i sh s off hT hp;split at hk;rename_i gg vs st' xC;split at hk;rename_i cs kW;split at hk;rename_i hlen;split at hk;rename_i iB;exact XC hE hd ho h hT hp xC kW hlen.1 hlen.2 iB hk;cases hk;cases hk;cases hk;cases hk;rename_i sh ep rt t e y i off hT hp;split at hk;rename_i gg vs st' xC;split at hk;rename_i hc;exact XE hE hd ho h hT hp xC hc.1 hc.2 hk;cases hk;cases hk;cases hk
end Go.Dn
