import Derived.Test.YtinkcmefgciifaaGreatDnOps2
/- Part 3: an element of an owned slice is written. -/
namespace Go.Dn
open Go.RowKit
variable {P:Program} {C:Ctx} {st:AS} {a:Act} {w:World} {R:Type} {r:R}
variable {arr:Array Value} {gg:Bool} {e:CT} {i:Int} {off:Nat} {rt:mq} {sh:Shape} {T:TypeId} {vs:az AC} {us:jT}
theorem zK {o:Nat}(h:o+us.length<=arr.size)(j:Nat): (fQ arr o us).toList[j]?=if o<=j/\j<o+us.length then us[j-o]? else arr.toList[j]?:=by
 rw[xg us arr o h];have hl:(arr.toList.take o).length=o:=by rw[aY];simp;omega
 by_cases h1:j<o;rw[kz,aE,bu (by omega),eD,aJ h1];by_cases h2:j<o+us.length;rw[zip,aE,bE (by omega),hl,bu (by omega)];rw[kz,bE (by rw[aj];omega),aj,hl,bP];congr 1;omega
theorem kE {l:jT}(p n j:Nat):((l.drop p).take n)[j]?=if j<n then l[p+j]? else none:=by rw[eD];split;rw[bP];rfl
theorem HE {o0 size n i:Nat}(Q3:off+us.length<=size)(hn:o0+(n+1)*size<=arr.size)(hi:i≠n): ((fQ arr (o0+n*size+off) us).toList.drop (o0+i*size)).take size=(arr.toList.drop (o0+i*size)).take size:=by
 have Eb:o0+n*size+size<=arr.size:=by rw[df,gB]at hn;omega
 apply de;intro j;rw[kE,kE];split;rename_i hj;rw[zK (by omega),aI];intro hc;rcases Nat.lt_or_gt_of_ne hi with h|h;have:(i+1)*size<=n*size:=cU _ h;rw[df,gB]at this;omega;have:(n+1)*size<=i*size:=cU _ h;rw[df,gB]at this;omega;rfl
theorem JP {p size:Nat}(Q3:off+us.length<=size)(Eb:p+size<=arr.size): ((fQ arr (p+off) us).toList.drop p).take size= ((arr.toList.drop p).take size).take off++us++((arr.toList.drop p).take size).drop (off+us.length):=by
 have hl:((arr.toList.drop p).take size).length=size:=by simp;omega
 have BD:(((arr.toList.drop p).take size).take off).length=off:=by rw[aY,hl];omega
 apply de;intro j;rw[kE];by_cases hj:j<size;rw[aJ hj,zK (by omega)];by_cases h1:j<off;rw[kz,aE,bu (by omega),eD,aJ h1,kE,aJ hj];by_cases h2:j<off+us.length;rw[zip,aE,bE (by omega),BD,bu (by omega)];congr 1;omega;rw[kz,bE (by rw[aj];omega),aj,BD,bP,kE,show off+us.length+(j-(off+us.length))=j by omega,aJ hj];rw[aI hj,bS];simp only[aj,BD,aP,hl];omega
theorem ahQ {hw:Nat->Nat}{w:World}{v:Value}{xs:az e.D}{fp0:gk}(h:gG hw w (.sl e) [v] xs fp0){n:Nat}{x:e.D}(hx:xs[n]?=some x): ∃b o0 cap arr T fr f1 fx f3,v=.slice (some ⟨b,o0,none⟩) xs.length cap/\w.heap[b]?=some (.cells arr T fr)/\rH arr fr/\o0+(n+1)*e.size<=arr.size/\ gG hw w e ((arr.toList.drop (o0+n*e.size)).take e.size) x fx/\fp0=b::(f1++fx++f3)/\ ∀(w':World)(us:jT)(off:Nat)(x':e.D)(fx':gk),off+us.length<=e.size->w'.heap[b]?=some (.cells (fQ arr (o0+n*e.size+off) us) T fr)-> (∀b'∈f1++f3,w'.heap[b']?=w.heap[b']?)->gG hw w' e (((fQ arr (o0+n*e.size+off) us).toList.drop (o0+n*e.size)).take e.size) x' fx'-> gG hw w' (.sl e) [v] (xs.set n x') (b::(f1++fx'++f3)):=by
 obtain⟨u,hu,h⟩:=h;simp at hu;subst hu;have L8:n<xs.length:=(aB.1 hx).1;rcases h with⟨⟨_,rfl⟩,rfl,rfl⟩|⟨b,o0,cap,arr,T,fr,fps,rfl,hb,uj,hs,hc,hh,rfl,hl,hr⟩;simp at hx;have Ws:fps[n]?=some fps[n]:=aq (by omega);have ID:=FO Ws;have hm:o0+(n+1)*e.size<=arr.size:=by rw[hs];exact Nat.add_le_add_left (cU _ (by omega)) _
 refine⟨b,o0,cap,arr,T,fr,(fps.take n).flatten,fps[n],(fps.drop (n+1)).flatten,rfl,hb,uj,hm,hr n x _ hx Ws,by rw[ID.1],?_⟩;intro w' us off x' fx' Q3 iB hk jl;refine⟨_,rfl,.inr ⟨b,o0,cap,fQ arr (o0+n*e.size+off) us,T,fr,fps.set n fx',by simp,iB,λj hj=>uj j (by rwa[jN]at hj),by rw[jN];exact hs,by simpa using hc,by simpa using hh,by rw[ID.2],by simp[hl],?_⟩⟩;intro i y f hy hf;by_cases ux:i=n;subst ux;rw[bL]at hy hf;simp only[cr,L8]at hy;simp only[cr]at hf;rw[zip]at hf;simp at hy hf;subst hy;subst hf;exact jl;rw[aF (cd ux)]at hy hf;rw[HE Q3 hm ux];refine gG.mono (hr i y f hy hf) (λb' anB=>⟨hk b' ?_,rfl⟩);have Q0:i<fps.length:=(aB.1 hf).1;have hfi:fps[i]=f:=by rw[aq Q0]at hf;simpa using hf
 rcases Nat.lt_or_gt_of_ne ux with iz|hgt;refine aU _ (List.mem_flatten.2 ⟨f,?_,anB⟩);rw[List.mem_take_iff_getElem];exact⟨i,by omega,hfi⟩;refine bm _ (List.mem_flatten.2 ⟨f,?_,anB⟩);rw[List.mem_drop_iff_getElem];exact⟨i-(n+1),by omega,by rw[<-hfi];congr 1;omega⟩
theorem WD {α:Type}{xs:az α}{x:α}(h:idx xs i=some x):∃n:Nat,i=n/\xs[n]?=some x:=by cases i with|ofNat n=>exact⟨n,rfl,h⟩|negSucc n=>simp[idx]at h
theorem QU {E:Env}(hE:kJ P E.ty){o:Oper}{p x:Operand}(hd:o.dst=none)(ho:o.op=.store T p x){K:AS->aC R}{t':Nat}{cc:AS}{g':Gh}(hT:kv E.ty T=some sh)(hlen:vs.length=sh.ct.size)(pQ:eX C g' cc a w [(a.eval x,.val gg vs)]){b o0 len cap n:Nat}{q:aC Nat}{xs:az e.D}{x':e.D}(hv:a.eval p=.pointer (some ⟨b,o0+n*e.size,none⟩))(hrt:g'.hdr t'=.slice (some ⟨b,o0,none⟩) len cap)(ux:i=n)(jq:cc.gh rt=some (.sl (.gH (some t') i q) e xs))(hof:mW e vs=some (x',[]))(hk:K {cc.gq rt (.sl (.own (some t')) e (xs.set i.toNat x'))with ep:=cc.ep+1}=some r):ox P C o a w K r:=by
 obtain⟨v0,f2,ga,Fv,BD,qb⟩:=pQ.US rt (by simp) jq;obtain⟨_,⟨k,hik,jl⟩,an7⟩:=ga;have hkn:k=n:=by omega
 subst hkn;obtain⟨b2,o2,Zf,arr,T',fr,fps,O4,lV,uj,hs,hc,hh,DH,hl,hkl,hfk,hr⟩:=jl;have lV:w.heap[b2]?=some (.cells arr T' fr):=lV;have h1:v0=g'.hdr t':=(an7 t' rfl).2;rw[hrt,O4]at h1;simp only[Value.slice.injEq,bw,Addr.mk.injEq]at h1;obtain⟨⟨rfl,rfl,_⟩,_⟩:=h1;obtain⟨fh,⟨us,gJ,YH⟩,QK,Wv⟩:=pQ.hands 0 _ _ rfl;obtain⟨q1,q2,hq,hq1,hq2⟩:=zI YH hof;have Wq:us.drop e.size=[]:=by cases hd0:us.drop e.size with|nil=>rfl|cons _ _=>rw[hd0]at hq2;exact hq2.elim
 rw[Wq]at hq2;have al1:q2=[]:=hq2;subst al1;rw[bB]at hq;subst hq;have hus:us.take e.size=us:=by have:=cC e.size us;rw[Wq,bB]at this;exact this
 rw[hus]at hq1;have hul:us.length=e.size:=gG.length hq1;have wq:o2+(k+1)*e.size<=arr.size:=by rw[hs];exact Nat.add_le_add_left (cU _ (by omega)) _
 have adz:o2+k*e.size+e.size<=arr.size:=by rw[df,gB]at wq;omega
 let w':=vK w b2 (fQ arr (o2+k*e.size+0) us) T' fr;have Hv:=nN lV;have Z4:∀c,c≠b2->w'.heap[c]?=w.heap[c]?:=λc hc=>oq hc;have atd:=YH.length;have WB:=EW (P:=P) (w:=w) (hE T sh hT) b2 (o2+k*e.size+0) gJ (by omega) (λu hu=>gG.oI hq1 u hu) lV uj;have fG:(execOp a.eval o).run P w=.ok .skip w':=by simp only[execOp,ho,hv,Instr.storeAt,Instr.sureAddr,Sem.run_bind,Sem.run_pure,Result.andThen_ok];show((storeVar T ⟨b2,o2+k*e.size+0,none⟩ (a.eval x)).run P w).andThen _=_;rw[WB];rfl
 have ID:=FO hfk;have xY:b2∉fps.flatten:=by rw[DH]at Fv;exact(dK.1 Fv).1
 have hnf:fps.flatten.Nodup:=by rw[DH]at Fv;exact(dK.1 Fv).2
 have QY:∀c∈fh,c∉f2:=by intro c hc hm;have h1:=Wv c hc;rw[BD c hm]at h1;cases rt<;>cases h1
 have anK:∀c∈fh,c≠b2:=λc hc e=>QY c hc (by rw[DH,e];simp);have akU:∀c,c∈(fps.set k fh).flatten↔c∈fps.flatten\/c∈fh:=by intro c;rw[ID.2,ID.1];simp only[ay,List.not_mem_nil,or_false];constructor;rintro((h|h)|h)<;>simp[h];rintro((h|h)|h)<;>simp[h]
 have ag5:gG g'.hw w' (.sl e) [v0] (xs.set k x') (b2::(fps.set k fh).flatten):=by
  refine⟨v0,rfl,.inr ⟨b2,o2,Zf,fQ arr (o2+k*e.size+0) us,T',fr,fps.set k fh,by rw[O4];simp,yx Hv,λj hj=>uj j (by rwa[jN]at hj),by rw[jN];exact hs,by simpa using hc,by rw[aD];exact hh,rfl,by simp[hl],?_⟩⟩;intro j y f hy hf;by_cases M3:j=k;subst M3;rw[bL]at hy hf;simp only[cr,hkl]at hy;simp only[cr]at hf;rw[zip]at hf;simp at hy hf;subst hy;subst hf;rw[JP (by omega) adz];have e1:((arr.toList.drop (o2+j*e.size)).take e.size).take 0++us++((arr.toList.drop (o2+j*e.size)).take e.size).drop (0+us.length)=us:=by rw[List.take_zero,bX,cx (by simp;omega),bB]
  rw[e1];exact gG.mono hq1 (λc hc=>⟨Z4 c (anK c hc),rfl⟩);rw[aF (cd M3)]at hy hf;rw[HE (by omega) wq M3];refine gG.mono (hr j y f M3 hy hf) (λc hc=>⟨Z4 c (λe0=>xY ?_),rfl⟩);rw[<-e0];exact List.mem_flatten.2 ⟨f,aQ hf,hc⟩
 have asz:(b2::(fps.set k fh).flatten).Nodup:=by
  refine dK.2 ⟨λhm=>?_,?_⟩;rcases(akU b2).1 hm with h|h;exact xY h;exact anK b2 h rfl;rw[ID.2];rw[ID.1,bB]at hnf;have m:=aO.1 hnf;have anM:∀c,c∈(fps.take k).flatten\/c∈(fps.drop (k+1)).flatten->c∈f2:=by intro c hc;rw[DH,ID.1];rcases hc with hc|hc<;>simp[hc]
  refine aO.2 ⟨aO.2 ⟨m.1,QK,?_⟩,m.2.1,?_⟩;rintro c hc d hd rfl;exact QY c hd (anM c (.inl hc));rintro c hc d hd rfl;rcases ay.1 hc with hc|hc;exact m.2.2 c hc c hd rfl;exact QY c hc (anM c (.inr hd))
 have ass:i.toNat=k:=by omega
 rw[ass]at hk
 obtain⟨g2,H7⟩:=qb w' g'.hw (.sl (.own (some t')) e (xs.set k x')) (b2::(fps.set k fh).flatten) (λc' hle Vr Hl=>⟨by rw[Vr,Hl];exact ag5,λt ht=>by simp at ht;subst ht;have h0:=an7 t' rfl;exact⟨(hle.hdr t' h0.1).1,by rw[(hle.hdr t' h0.1).2];exact h0.2⟩⟩) asz (λc hc=>by
  show _<(vK _ _ _ _ _).heap.size/\_
  rw[nk]
  rcases cD.1 hc with rfl|hc
  ·exact⟨Hv,.inl (by rw[DH];simp)⟩
  ·rcases(akU c).1 hc with h|h
   ·have:c∈f2:=by rw[DH];simp[h]
    exact⟨(pQ.iw c _ (BD c this)).1,.inl this⟩
   ·exact⟨(pQ.iw c _ (Wv c h)).1,.inr (by rw[Wv c h];rfl)⟩)
  ⟨rfl,rfl,rfl,by show _<=(vK _ _ _ _ _).heap.size;rw[nk];exact aX _,λc _ hc=>Z4 c (λe=>hc (.inr (by rw[DH,e];simp)))⟩ (λ_ _ _ _ _=>rfl)
 refine⟨undef,_,_,.inr ⟨rfl,fG⟩,?_,hk⟩;rw[hd];exact⟨g2,H7⟩
theorem Rs {E:Env}(hE:kJ P E.ty){o:Oper}{p x:Operand}(hd:o.dst=none)(ho:o.op=.store T p x)(h:pT C st a w){K:AS->aC R}{ep t:Nat}{y:e.D}{cc:AS}(hT:kv E.ty T=some sh)(hp:st.rd p=.val false [.C5 (.loc ep (some (rt,t))) e y i off])(uz:st.take x=(.val gg vs,cc))(hlen:vs.length=sh.ct.size)(iW:off+sh.ct.size<=e.size)(hk:cc.rb rt t e i off vs K=some r):ox P C o a w K r:=by
 obtain⟨g,hg⟩:=h;have wo:=hg.rd p;rw[hp]at wo;obtain⟨_,b,ob,hv,_,_,Hx⟩:=fO wo;obtain⟨_,n,o0,len,cap,ux,hrt,L8,hob⟩:=Hx rt t rfl;obtain⟨g',⟨KS,GV,QZ,_⟩,pQ⟩:=hg.aiU x;rw[uz]at pQ;unfold AS.rb at hk;split at hk;rename_i t' e' xs jq;split at hk;rename_i hee;subst hee;split at hk
 ·rename_i htt
  subst htt
  simp only at hk
  cases FX:idx xs i with
  |none=>rw[FX]at hk;simp[aa]at hk
  |some x0=>
  rw[FX]at hk
  simp only[aa]at hk
  split at hk
  ·rename_i x' hof
   obtain⟨n',Eb,hx0⟩:=WD FX
   have OV:n'=n:=by omega
   subst OV
   obtain⟨v0,f2,Sa,jl,Fv,BD,qb⟩:=pQ.UT rt jq
   have Sa: .slice (some ⟨b,o0,none⟩) len cap=v0:=by have h1:=Sa t' rfl;have h2:g.hdr t'=.slice (some ⟨b,o0,none⟩) len cap:=hrt;rw[h1,QZ,h2]
   obtain⟨b2,o2,Zf,arr,T',fr,f1,fx,f3,O4,lV,uj,wq,O0,Fh,F1⟩:=ahQ jl hx0
   rw[<-Sa]at O4
   simp only[Value.slice.injEq,bw,Addr.mk.injEq]at O4
   obtain⟨⟨rfl,rfl,_⟩,_⟩:=O4
   obtain⟨fh,⟨us,gJ,YH⟩,QK,Wv⟩:=pQ.hands 0 _ _ rfl
   have hul:=YH.length
   have akT:off+us.length<=e'.size:=by omega
   have adz:(o0+n'*e'.size)+e'.size<=arr.size:=by rw[df,gB]at wq;omega
   have an1:=BJ (c:=dp C g' cc w) O0
   obtain⟨k1,k2,k3,hkx,r1,r2,r3⟩:=an1.mid off us.length
   have anJ:=Fv
   rw[Fh]at anJ
   have xY:=dK.1 anJ
   have QY:∀c∈fh,c∉f2:=by intro c hc hm;have h1:=Wv c hc;rw[BD c hm]at h1;cases rt<;>cases h1
   let w':=vK w b (fQ arr ((o0+n'*e'.size)+off) us) T' fr
   have Hv:=nN lV
   have Z4:∀c,c≠b->w'.heap[c]?=w.heap[c]?:=λc hc=>oq hc
   have al4:∀u∈us,u.oneCell'=true:=by
    have KQ:bT (dp C g' cc w) (((arr.toList.drop (o0+n'*e'.size)).take e'.size).take off++us++((arr.toList.drop (o0+n'*e'.size)).take e'.size).drop (off+us.length))
     (fD (cellsOf e' (.own none) x0) off vs) (k1++fh++k3):=by
     have e2:fD (cellsOf e' (.own none) x0) off vs=(cellsOf e' (.own none) x0).take off++vs++(cellsOf e' (.own none) x0).drop (off+us.length):=by simp only[fD];rw[hul]
     rw[e2]
     exact(r1.append YH).append r3
    obtain⟨q1,q2,hq,hq1,hq2⟩:=zI KQ hof;have anS:(((arr.toList.drop (o0+n'*e'.size)).take e'.size).take off++us++((arr.toList.drop (o0+n'*e'.size)).take e'.size).drop (off+us.length)).length=e'.size:=by rw[KQ.length,HL (by rw[mH];omega),mH]
    rw[bW (by omega)]at hq1;intro u hu;exact gG.oI hq1 u (by simp[hu])
   have WB:=EW (P:=P) (w:=w) (hE T sh hT) b ((o0+n'*e'.size)+off) gJ (by omega) al4 lV uj
   have fG:(execOp a.eval o).run P w=.ok .skip w':=by simp only[execOp,ho,hv,Instr.storeAt,Instr.sureAddr,Sem.run_bind,Sem.run_pure,Result.andThen_ok];show((storeVar T ⟨b,ob+off,none⟩ (a.eval x)).run P w).andThen _=_;rw[hob,WB];rfl
   have hle:(dp C g' cc w).Le ⟨g'.hw,g'.β,C.A,g'.hdr,oz cc,cc.ep+1,ky cc,w'⟩:=by
    refine⟨rfl,λ_ ht=>⟨ht,rfl⟩,λk c o u hA hu=>?_,Nat.le_succ _,λ_ hs=>⟨hs,rfl⟩,λhe=>absurd he (Nat.succ_ne_self _)⟩;have Ec:c≠b:=by rintro rfl;exact pQ.Pn (BD c (by rw[Fh];simp)) k o hA
    rw[World.cell?_of_block (a:=⟨c,o,none⟩) (Z4 c Ec)];exact hu
   have anP:∀c∈fx,c≠b:=by rintro c hc rfl;exact xY.1 (by simp[hc])
   have KQ:bT ⟨g'.hw,g'.β,C.A,g'.hdr,oz cc,cc.ep+1,ky cc,w'⟩
    (((fQ arr ((o0+n'*e'.size)+off) us).toList.drop (o0+n'*e'.size)).take e'.size) (fD (cellsOf e' (.own none) x0) off vs) (k1++fh++k3):=by
    have e2:fD (cellsOf e' (.own none) x0) off vs=(cellsOf e' (.own none) x0).take off++vs++(cellsOf e' (.own none) x0).drop (off+us.length):=by simp only[fD];rw[hul]
    rw[e2,JP akT adz]
    refine((r1.mono hle (λc hc=>⟨Z4 c (anP c (by rw[hkx];simp[hc])),rfl⟩)).append
     (YH.mono hle (λc hc=>⟨Z4 c (λe=>QY c hc (by rw[Fh,e];simp)),rfl⟩))).append
     (r3.mono hle (λc hc=>⟨Z4 c (anP c (by rw[hkx];simp[hc])),rfl⟩))
   obtain⟨q1,q2,hq,hq1,hq2⟩:=zI KQ hof
   have anS:(((fQ arr ((o0+n'*e'.size)+off) us).toList.drop (o0+n'*e'.size)).take e'.size).length=e'.size:=by rw[KQ.length,HL (by rw[mH];omega),mH]
   rw[cx (by omega)]at hq2
   have al1:q2=[]:=hq2
   subst al1
   rw[bW (by omega)]at hq1
   rw[bB]at hq
   have ag5:=F1 w' us off x' q1 akT (yx Hv) (λc hc=>Z4 c (λe=>xY.1 (by rw[<-e];rcases ay.1 hc with k|k<;>simp[k]))) hq1
   have Ep:∀c∈b::(f1++q1++f3),c∈f2\/c∈fh:=by intro c hc;rw[<-hq]at hc;simp only[cD,ay]at hc;rw[Fh,hkx];simp only[cD,ay];rcases hc with hc|((hc|((hc|hc)|hc))|hc)<;>simp[hc]
   have GW:(b::(f1++q1++f3)).Nodup:=by
    have hx2:=xY.2;rw[hkx]at hx2;rw[aE]at hx2;have m1:=aO.1 hx2;have m2:=aO.1 m1.2.1;have m2a:=m2.1;rw[aE]at m2a;have m3:=aO.1 m2a;have m4:=aO.1 m3.2.1;have inx:∀c,(c∈f1\/c∈k1\/c∈k3\/c∈f3)->c∈f2:=by intro c hc;rw[Fh,hkx];simp only[cD,ay];rcases hc with hc|hc|hc|hc<;>simp[hc]
    rw[<-hq];refine dK.2 ⟨λhm=>?_,?_⟩;simp only[ay]at hm;rcases hm with(hm|((hm|hm)|hm))|hm;exact xY.1 (by simp[hm]);exact xY.1 (by rw[hkx];simp[hm]);exact QY b hm (by rw[Fh];simp);exact xY.1 (by rw[hkx];simp[hm]);exact xY.1 (by simp[hm]);rw[aE];refine aO.2 ⟨m1.1,aO.2 ⟨?_,m2.2.1,?_⟩,?_⟩;rw[aE];refine aO.2 ⟨m3.1,aO.2 ⟨QK,m4.2.1,?_⟩,?_⟩;rintro c hc d hd rfl;exact QY c hc (inx c (by simp[hd]));rintro c hc d hd rfl;rcases ay.1 hd with hd|hd;exact QY c hd (inx c (by simp[hc]));exact m3.2.2 c hc c (bm _ hd) rfl;rintro c hc d hd rfl;simp only[ay]at hc;rcases hc with(hc|hc)|hc;exact m2.2.2 c (by simp[hc]) c hd rfl;exact QY c hc (inx c (by simp[hd]));exact m2.2.2 c (by simp[hc]) c hd rfl;rintro c hc d hd rfl;simp only[ay]at hd;rcases hd with((hd|hd)|hd)|hd;exact m1.2.2 c hc c (by simp[hd]) rfl;exact QY c hd (inx c (by simp[hc]));exact m1.2.2 c hc c (by simp[hd]) rfl;exact m1.2.2 c hc c (by simp[hd]) rfl
   have alK:Fr (λc=>eM (g'.fL c)\/c∈f2) w w':=⟨rfl,rfl,rfl,by show _<=(vK _ _ _ _ _).heap.size;rw[nk];exact aX _,λc _ hc=>Z4 c (λe=>hc (.inr (by rw[Fh,e];simp)))⟩
   obtain⟨g2,H7⟩:=qb w' g'.hw (xs.set n' x') (b::(f1++q1++f3)) ag5 GW (λc hc=>by rcases Ep c hc with k|k;exact⟨by show _<(vK _ _ _ _ _).heap.size;rw[nk];exact(pQ.iw c _ (BD c k)).1,.inl k⟩;exact⟨by show _<(vK _ _ _ _ _).heap.size;rw[nk];exact(pQ.iw c _ (Wv c k)).1,.inr (by rw[Wv c k];rfl)⟩) alK (λ_ _ _ _ _=>rfl)
   refine⟨undef,_,_,.inr ⟨rfl,fG⟩,?_,hk⟩
   rw[hd]
   have alM:i.toNat=n':=by omega
   rw[alM]
   exact⟨g2,H7⟩
  ·cases hk
 cases hk;cases hk;rename_i t' i' q e' xs jq;split at hk;rename_i hee;subst hee;split at hk;rename_i hc;obtain⟨rfl,rfl⟩:=hc;simp only at hk;cases FX:adA xs i' i with|none=>rw[FX]at hk;simp[aa]at hk|some x0=>obtain⟨rfl,atk⟩:=adB FX;rw[FX]at hk;simp only[aa]at hk;split at hk;rename_i x' hof;exact QU hE hd ho hT hlen pQ (by rw[hv,hob,eE]) (by rw[QZ];exact hrt) ux jq hof hk;cases hk
 cases hk;cases hk;cases hk
theorem abv {E:Env}(hE:kJ P E.ty){o:Oper}{p x:Operand}(hd:o.dst=none)(ho:o.op=.store T p x)(h:pT C st a w){K:AS->aC R}(hk:yt E T p x st K=some r):ox P C o a w K r:=by unfold yt at hk;split at hk;rename_i sh s off hT hp;split at hk;rename_i gg vs cc uz;split at hk;rename_i cs lB;split at hk;rename_i hlen;split at hk;rename_i iW;exact Rq hE hd ho h hT hp uz lB hlen.1 hlen.2 iW hk;cases hk;cases hk;cases hk;cases hk;rename_i sh ep rt t e y i off hT hp;split at hk;rename_i gg vs cc uz;split at hk;rename_i hc;exact Rs hE hd ho h hT hp uz hc.1 hc.2 hk;cases hk;cases hk;cases hk
end Go.Dn
