import Derived.Test.YtfbhfnniblfpbaaGreatDnOps2
/- Part 3: an element of an owned slice is written. -/
namespace Go.Dn
open Go.RowKit
variable {P:Program} {C:Ctx} {st:AS} {a:Act} {w:World} {R:Type} {r:R}
variable {arr:Array Value} {gg:Bool} {e:CT} {off:Nat} {rt:mw} {sh:Shape} {T:TypeId} {vs:ax AC} {us:jI}
theorem Bo {o:Nat}(h:o+us.length<=arr.size)(j:Nat): (fP arr o us).toList[j]?=if o<=j/\j<o+us.length then us[j-o]? else arr.toList[j]?:=by
 rw[yq us arr o h];have hl:(arr.toList.take o).length=o:=by rw[bt];simp;omega
 by_cases h1:j<o;rw[lH,aG,bB (by omega),eJ,aI h1];by_cases h2:j<o+us.length;rw[zip,aG,bJ (by omega),hl,bB (by omega)];rw[lH,bJ (by rw[aq];omega),aq,hl,cj];congr 1;omega
theorem kK {l:jI}(p n j:Nat):((l.drop p).take n)[j]?=if j<n then l[p+j]? else none:=by rw[eJ];split;rw[cj];rfl
theorem JH {o0 size n i:Nat}(SV:off+us.length<=size)(hn:o0+(n+1)*size<=arr.size)(hi:i≠n): ((fP arr (o0+n*size+off) us).toList.drop (o0+i*size)).take size=(arr.toList.drop (o0+i*size)).take size:=by
 have D5:o0+n*size+size<=arr.size:=by rw[dg,fT]at hn;omega
 apply dB;intro j;rw[kK,kK];split;rename_i hj;rw[Bo (by omega),aK];intro hc;rcases Nat.lt_or_gt_of_ne hi with h|h;have:(i+1)*size<=n*size:=dw _ h;rw[dg,fT]at this;omega;have:(n+1)*size<=i*size:=dw _ h;rw[dg,fT]at this;omega;rfl
theorem LG {p size:Nat}(SV:off+us.length<=size)(D5:p+size<=arr.size): ((fP arr (p+off) us).toList.drop p).take size= ((arr.toList.drop p).take size).take off++us++((arr.toList.drop p).take size).drop (off+us.length):=by
 have hl:((arr.toList.drop p).take size).length=size:=by simp;omega
 have B4:(((arr.toList.drop p).take size).take off).length=off:=by rw[bt,hl];omega
 apply dB;intro j;rw[kK];by_cases hj:j<size;rw[aI hj,Bo (by omega)];by_cases h1:j<off;rw[lH,aG,bB (by omega),eJ,aI h1,kK,aI hj];by_cases h2:j<off+us.length;rw[zip,aG,bJ (by omega),B4,bB (by omega)];congr 1;omega;rw[lH,bJ (by rw[aq];omega),aq,B4,cj,kK,show off+us.length+(j-(off+us.length))=j by omega,aI hj];rw[aK hj,cd];simp only[aq,B4,bA,hl];omega
theorem aip {hw:Nat->Nat}{w:World}{v:Value}{xs:ax e.D}{fp0:fi}(h:fZ hw w (.sl e) [v] xs fp0){n:Nat}{x:e.D}(hx:xs[n]?=some x): ∃b o0 cap arr T fr f1 fx f3,v=.slice (some ⟨b,o0,none⟩) xs.length cap/\w.heap[b]?=some (.cells arr T fr)/\sE arr fr/\o0+(n+1)*e.size<=arr.size/\ fZ hw w e ((arr.toList.drop (o0+n*e.size)).take e.size) x fx/\fp0=b::(f1++fx++f3)/\ ∀(w':World)(us:jI)(off:Nat)(x':e.D)(fx':fi),off+us.length<=e.size->w'.heap[b]?=some (.cells (fP arr (o0+n*e.size+off) us) T fr)-> (∀b'∈f1++f3,w'.heap[b']?=w.heap[b']?)->fZ hw w' e (((fP arr (o0+n*e.size+off) us).toList.drop (o0+n*e.size)).take e.size) x' fx'-> fZ hw w' (.sl e) [v] (xs.set n x') (b::(f1++fx'++f3)):=by
 obtain⟨u,hu,h⟩:=h;simp at hu;subst hu;have Oa:n<xs.length:=(aD.1 hx).1;rcases h with⟨⟨_,rfl⟩,rfl,rfl⟩|⟨b,o0,cap,arr,T,fr,fps,rfl,hb,vx,hs,hc,hh,rfl,hl,hr⟩;simp at hx;have X3:fps[n]?=some fps[n]:=ay (by omega);have KH:=HE X3;have hm:o0+(n+1)*e.size<=arr.size:=by rw[hs];exact Nat.add_le_add_left (dw _ (by omega)) _
 refine⟨b,o0,cap,arr,T,fr,(fps.take n).flatten,fps[n],(fps.drop (n+1)).flatten,rfl,hb,vx,hm,hr n x _ hx X3,by rw[KH.1],?_⟩;intro w' us off x' fx' SV iq hk ix;refine⟨_,rfl,.inr ⟨b,o0,cap,fP arr (o0+n*e.size+off) us,T,fr,fps.set n fx',by simp,iq,λj hj=>vx j (by rwa[jR]at hj),by rw[jR];exact hs,by simpa using hc,by simpa using hh,by rw[KH.2],by simp[hl],?_⟩⟩;intro i y f hy hf;by_cases zw:i=n;subst zw;rw[bO]at hy hf;simp only[cL,Oa]at hy;simp only[cL]at hf;rw[zip]at hf;simp at hy hf;subst hy;subst hf;exact ix;rw[aM (cE zw)]at hy hf;rw[JH SV hm zw];refine fZ.mono (hr i y f hy hf) (λb' amz=>⟨hk b' ?_,rfl⟩);have SS:i<fps.length:=(aD.1 hf).1;have hfi:fps[i]=f:=by rw[ay SS]at hf;simpa using hf
 rcases Nat.lt_or_gt_of_ne zw with iA|hgt;refine aU _ (List.mem_flatten.2 ⟨f,?_,amz⟩);rw[List.mem_take_iff_getElem];exact⟨i,by omega,hfi⟩;refine bj _ (List.mem_flatten.2 ⟨f,?_,amz⟩);rw[List.mem_drop_iff_getElem];exact⟨i-(n+1),by omega,by rw[<-hfi];congr 1;omega⟩
theorem Yh {α:Type}{xs:ax α}{i:Int}{x:α}(h:idx xs i=some x):∃n:Nat,i=n/\xs[n]?=some x:=by cases i with|ofNat n=>exact⟨n,rfl,h⟩|negSucc n=>simp[idx]at h
theorem SN {E:Env}(hE:kQ P E.ty){o:Oper}{p x:Operand}(hd:o.dst=none)(ho:o.op=.store T p x){K:AS->aA R}{t':Nat}{i:Int}{cp:AS}{g':Gh}(hT:kl E.ty T=some sh)(hlen:vs.length=sh.ct.size)(qn:eZ C g' cp a w [(a.eval x,.val gg vs)]){b o0 len cap n:Nat}{q:aA Nat}{xs:ax e.D}{x':e.D}(hv:a.eval p=.pointer (some ⟨b,o0+n*e.size,none⟩))(hrt:g'.hdr t'=.slice (some ⟨b,o0,none⟩) len cap)(zw:i=n)(jk:cp.fU rt=some (.sl (.gr (some t') i q) e xs))(hof:kJ e vs=some (x',[]))(hk:K {cp.gj rt (.sl (.own (some t')) e (xs.set i.toNat x'))with ep:=cp.ep+1}=some r):oK P C o a w K r:=by
 obtain⟨v0,f2,fE,Hn,B4,tt⟩:=qn.Wx rt (by simp) jk;obtain⟨_,⟨k,hik,ix⟩,am5⟩:=fE;have hkn:k=n:=by omega
 subst hkn;obtain⟨b2,o2,aav,arr,T',fr,fps,Ob,ma,vx,hs,hc,hh,F1,hl,hkl,hfk,hr⟩:=ix;have ma:w.heap[b2]?=some (.cells arr T' fr):=ma;have h1:v0=g'.hdr t':=(am5 t' rfl).2;rw[hrt,Ob]at h1;simp only[Value.slice.injEq,br,Addr.mk.injEq]at h1;obtain⟨⟨rfl,rfl,_⟩,_⟩:=h1;obtain⟨fh,⟨us,gb,hrh⟩,SC,X7⟩:=qn.hands 0 _ _ rfl;obtain⟨q1,q2,hq,hq1,hq2⟩:=tN hrh hof;have XZ:us.drop e.size=[]:=by cases hd0:us.drop e.size with|nil=>rfl|cons _ _=>rw[hd0]at hq2;exact hq2.elim
 rw[XZ]at hq2;have alL:q2=[]:=hq2;subst alL;rw[bg]at hq;subst hq;have hus:us.take e.size=us:=by have:=cg e.size us;rw[XZ,bg]at this;exact this
 rw[hus]at hq1;have hul:us.length=e.size:=fZ.length hq1;have wv:o2+(k+1)*e.size<=arr.size:=by rw[hs];exact Nat.add_le_add_left (dw _ (by omega)) _
 have aer:o2+k*e.size+e.size<=arr.size:=by rw[dg,fT]at wv;omega
 let w':=xj w b2 (fP arr (o2+k*e.size+0) us) T' fr;have Jw:=nR ma;have X5:∀c,c≠b2->w'.heap[c]?=w.heap[c]?:=λc hc=>oG hc;have atf:=hrh.length;have Ye:=GP (P:=P) (w:=w) (hE T sh hT) b2 (o2+k*e.size+0) gb (by omega) (λu hu=>fZ.oT hq1 u hu) ma vx;have fz:(execOp a.eval o).run P w=.ok .skip w':=by simp only[execOp,ho,hv,Instr.storeAt,Instr.sureAddr,Sem.run_bind,Sem.run_pure,Result.andThen_ok];show((storeVar T ⟨b2,o2+k*e.size+0,none⟩ (a.eval x)).run P w).andThen _=_;rw[Ye];rfl
 have KH:=HE hfk;have zb:b2∉fps.flatten:=by rw[F1]at Hn;exact(dH.1 Hn).1
 have hnf:fps.flatten.Nodup:=by rw[F1]at Hn;exact(dH.1 Hn).2
 have SR:∀c∈fh,c∉f2:=by intro c hc hm;have h1:=X7 c hc;rw[B4 c hm]at h1;cases rt<;>cases h1
 have amI:∀c∈fh,c≠b2:=λc hc e=>SR c hc (by rw[F1,e];simp);have akV:∀c,c∈(fps.set k fh).flatten↔c∈fps.flatten\/c∈fh:=by intro c;rw[KH.2,KH.1];simp only[aB,List.not_mem_nil,or_false];constructor;rintro((h|h)|h)<;>simp[h];rintro((h|h)|h)<;>simp[h]
 have ahv:fZ g'.hw w' (.sl e) [v0] (xs.set k x') (b2::(fps.set k fh).flatten):=by
  refine⟨v0,rfl,.inr ⟨b2,o2,aav,fP arr (o2+k*e.size+0) us,T',fr,fps.set k fh,by rw[Ob];simp,Ac Jw,λj hj=>vx j (by rwa[jR]at hj),by rw[jR];exact hs,by simpa using hc,by rw[aL];exact hh,rfl,by simp[hl],?_⟩⟩;intro j y f hy hf;by_cases V1:j=k;subst V1;rw[bO]at hy hf;simp only[cL,hkl]at hy;simp only[cL]at hf;rw[zip]at hf;simp at hy hf;subst hy;subst hf;rw[LG (by omega) aer];have e1:((arr.toList.drop (o2+j*e.size)).take e.size).take 0++us++((arr.toList.drop (o2+j*e.size)).take e.size).drop (0+us.length)=us:=by rw[List.take_zero,bU,cW (by simp;omega),bg]
  rw[e1];exact fZ.mono hq1 (λc hc=>⟨X5 c (amI c hc),rfl⟩);rw[aM (cE V1)]at hy hf;rw[JH (by omega) wv V1];refine fZ.mono (hr j y f V1 hy hf) (λc hc=>⟨X5 c (λe0=>zb ?_),rfl⟩);rw[<-e0];exact List.mem_flatten.2 ⟨f,aX hf,hc⟩
 have asO:(b2::(fps.set k fh).flatten).Nodup:=by
  refine dH.2 ⟨λhm=>?_,?_⟩;rcases(akV b2).1 hm with h|h;exact zb h;exact amI b2 h rfl;rw[KH.2];rw[KH.1,bg]at hnf;have m:=aN.1 hnf;have amK:∀c,c∈(fps.take k).flatten\/c∈(fps.drop (k+1)).flatten->c∈f2:=by intro c hc;rw[F1,KH.1];rcases hc with hc|hc<;>simp[hc]
  refine aN.2 ⟨aN.2 ⟨m.1,SC,?_⟩,m.2.1,?_⟩;rintro c hc d hd rfl;exact SR c hd (amK c (.inl hc));rintro c hc d hd rfl;rcases aB.1 hc with hc|hc;exact m.2.2 c hc c hd rfl;exact SR c hc (amK c (.inr hd))
 have asH:i.toNat=k:=by omega
 rw[asH]at hk
 obtain⟨g2,Kf⟩:=tt w' g'.hw (.sl (.own (some t')) e (xs.set k x')) (b2::(fps.set k fh).flatten) (λc' hle T8 Hh=>⟨by rw[T8,Hh];exact ahv,λt ht=>by simp at ht;subst ht;have h0:=am5 t' rfl;exact⟨(hle.hdr t' h0.1).1,by rw[(hle.hdr t' h0.1).2];exact h0.2⟩⟩) asO (λc hc=>by
  show _<(xj _ _ _ _ _).heap.size/\_
  rw[nz]
  rcases cy.1 hc with rfl|hc
  ·exact⟨Jw,.inl (by rw[F1];simp)⟩
  ·rcases(akV c).1 hc with h|h
   ·have:c∈f2:=by rw[F1];simp[h]
    exact⟨(qn.ir c _ (B4 c this)).1,.inl this⟩
   ·exact⟨(qn.ir c _ (X7 c h)).1,.inr (by rw[X7 c h];rfl)⟩)
  ⟨rfl,rfl,rfl,by show _<=(xj _ _ _ _ _).heap.size;rw[nz];exact bc _,λc _ hc=>X5 c (λe=>hc (.inr (by rw[F1,e];simp)))⟩ (λ_ _ _ _ _=>rfl)
 refine⟨undef,_,_,.inr ⟨rfl,fz⟩,?_,hk⟩;rw[hd];exact⟨g2,Kf⟩
theorem Tm {E:Env}(hE:kQ P E.ty){o:Oper}{p x:Operand}(hd:o.dst=none)(ho:o.op=.store T p x)(h:qo C st a w){K:AS->aA R}{ep t:Nat}{y:e.D}{i:Int}{cp:AS}(hT:kl E.ty T=some sh)(hp:st.rd p=.val false [.Ef (.loc ep (some (rt,t))) e y i off])(vF:st.take x=(.val gg vs,cp))(hlen:vs.length=sh.ct.size)(iW:off+sh.ct.size<=e.size)(hk:cp.rO rt t e i off vs K=some r):oK P C o a w K r:=by
 obtain⟨g,hg⟩:=h;have xH:=hg.rd p;rw[hp]at xH;obtain⟨_,b,ob,hv,_,_,Jz⟩:=fN xH;obtain⟨_,n,o0,len,cap,zw,hrt,Oa,hob⟩:=Jz rt t rfl;obtain⟨g',⟨M3,IT,OV,_⟩,qn⟩:=hg.ai9 x;rw[vF]at qn;unfold AS.rO at hk;split at hk;rename_i t' e' xs jk;split at hk;rename_i hee;subst hee;split at hk
 ·rename_i htt
  subst htt
  simp only at hk
  cases HL:idx xs i with
  |none=>rw[HL]at hk;simp[aa]at hk
  |some x0=>
  rw[HL]at hk
  simp only[aa]at hk
  split at hk
  ·rename_i x' hof
   obtain⟨n',D5,hx0⟩:=Yh HL
   have QR:n'=n:=by omega
   subst QR
   obtain⟨v0,f2,Ub,ix,Hn,B4,tt⟩:=qn.Wy rt jk
   have Ub: .slice (some ⟨b,o0,none⟩) len cap=v0:=by have h1:=Ub t' rfl;have h2:g.hdr t'=.slice (some ⟨b,o0,none⟩) len cap:=hrt;rw[h1,OV,h2]
   obtain⟨b2,o2,aav,arr,T',fr,f1,fx,f3,Ob,ma,vx,wv,QV,Ha,HP⟩:=aip ix hx0
   rw[<-Ub]at Ob
   simp only[Value.slice.injEq,br,Addr.mk.injEq]at Ob
   obtain⟨⟨rfl,rfl,_⟩,_⟩:=Ob
   obtain⟨fh,⟨us,gb,hrh⟩,SC,X7⟩:=qn.hands 0 _ _ rfl
   have hul:=hrh.length
   have akU:off+us.length<=e'.size:=by omega
   have aer:(o0+n'*e'.size)+e'.size<=arr.size:=by rw[dg,fT]at wv;omega
   have amY:=xy (c:=dy C g' cp w) QV
   obtain⟨k1,k2,k3,hkx,r1,r2,r3⟩:=amY.mid off us.length
   have amH:=Hn
   rw[Ha]at amH
   have zb:=dH.1 amH
   have SR:∀c∈fh,c∉f2:=by intro c hc hm;have h1:=X7 c hc;rw[B4 c hm]at h1;cases rt<;>cases h1
   let w':=xj w b (fP arr ((o0+n'*e'.size)+off) us) T' fr
   have Jw:=nR ma
   have X5:∀c,c≠b->w'.heap[c]?=w.heap[c]?:=λc hc=>oG hc
   have alO:∀u∈us,u.oneCell'=true:=by
    have ME:bW (dy C g' cp w) (((arr.toList.drop (o0+n'*e'.size)).take e'.size).take off++us++((arr.toList.drop (o0+n'*e'.size)).take e'.size).drop (off+us.length))
     (fC (cellsOf e' (.own none) x0) off vs) (k1++fh++k3):=by
     have e2:fC (cellsOf e' (.own none) x0) off vs=(cellsOf e' (.own none) x0).take off++vs++(cellsOf e' (.own none) x0).drop (off+us.length):=by simp only[fC];rw[hul]
     rw[e2]
     exact(r1.append hrh).append r3
    obtain⟨q1,q2,hq,hq1,hq2⟩:=tN ME hof;have amQ:(((arr.toList.drop (o0+n'*e'.size)).take e'.size).take off++us++((arr.toList.drop (o0+n'*e'.size)).take e'.size).drop (off+us.length)).length=e'.size:=by rw[ME.length,JO (by rw[mH];omega),mH]
    rw[bZ (by omega)]at hq1;intro u hu;exact fZ.oT hq1 u (by simp[hu])
   have Ye:=GP (P:=P) (w:=w) (hE T sh hT) b ((o0+n'*e'.size)+off) gb (by omega) alO ma vx
   have fz:(execOp a.eval o).run P w=.ok .skip w':=by simp only[execOp,ho,hv,Instr.storeAt,Instr.sureAddr,Sem.run_bind,Sem.run_pure,Result.andThen_ok];show((storeVar T ⟨b,ob+off,none⟩ (a.eval x)).run P w).andThen _=_;rw[hob,Ye];rfl
   have hle:(dy C g' cp w).Le ⟨g'.hw,g'.β,C.A,g'.hdr,oL cp,cp.ep+1,kD cp,w'⟩:=by
    refine⟨rfl,λ_ ht=>⟨ht,rfl⟩,λk c o u hA hu=>?_,Nat.le_succ _,λ_ hs=>⟨hs,rfl⟩,λhe=>absurd he (Nat.succ_ne_self _)⟩;have Fa:c≠b:=by rintro rfl;exact qn.Rf (B4 c (by rw[Ha];simp)) k o hA
    rw[World.cell?_of_block (a:=⟨c,o,none⟩) (X5 c Fa)];exact hu
   have amN:∀c∈fx,c≠b:=by rintro c hc rfl;exact zb.1 (by simp[hc])
   have ME:bW ⟨g'.hw,g'.β,C.A,g'.hdr,oL cp,cp.ep+1,kD cp,w'⟩
    (((fP arr ((o0+n'*e'.size)+off) us).toList.drop (o0+n'*e'.size)).take e'.size) (fC (cellsOf e' (.own none) x0) off vs) (k1++fh++k3):=by
    have e2:fC (cellsOf e' (.own none) x0) off vs=(cellsOf e' (.own none) x0).take off++vs++(cellsOf e' (.own none) x0).drop (off+us.length):=by simp only[fC];rw[hul]
    rw[e2,LG akU aer]
    refine((r1.mono hle (λc hc=>⟨X5 c (amN c (by rw[hkx];simp[hc])),rfl⟩)).append
     (hrh.mono hle (λc hc=>⟨X5 c (λe=>SR c hc (by rw[Ha,e];simp)),rfl⟩))).append
     (r3.mono hle (λc hc=>⟨X5 c (amN c (by rw[hkx];simp[hc])),rfl⟩))
   obtain⟨q1,q2,hq,hq1,hq2⟩:=tN ME hof
   have amQ:(((fP arr ((o0+n'*e'.size)+off) us).toList.drop (o0+n'*e'.size)).take e'.size).length=e'.size:=by rw[ME.length,JO (by rw[mH];omega),mH]
   rw[cW (by omega)]at hq2
   have alL:q2=[]:=hq2
   subst alL
   rw[bZ (by omega)]at hq1
   rw[bg]at hq
   have ahv:=HP w' us off x' q1 akU (Ac Jw) (λc hc=>X5 c (λe=>zb.1 (by rw[<-e];rcases aB.1 hc with k|k<;>simp[k]))) hq1
   have Gd:∀c∈b::(f1++q1++f3),c∈f2\/c∈fh:=by intro c hc;rw[<-hq]at hc;simp only[cy,aB]at hc;rw[Ha,hkx];simp only[cy,aB];rcases hc with hc|((hc|((hc|hc)|hc))|hc)<;>simp[hc]
   have HN:(b::(f1++q1++f3)).Nodup:=by
    have hx2:=zb.2;rw[hkx]at hx2;rw[aG]at hx2;have m1:=aN.1 hx2;have m2:=aN.1 m1.2.1;have m2a:=m2.1;rw[aG]at m2a;have m3:=aN.1 m2a;have m4:=aN.1 m3.2.1;have inx:∀c,(c∈f1\/c∈k1\/c∈k3\/c∈f3)->c∈f2:=by intro c hc;rw[Ha,hkx];simp only[cy,aB];rcases hc with hc|hc|hc|hc<;>simp[hc]
    rw[<-hq];refine dH.2 ⟨λhm=>?_,?_⟩;simp only[aB]at hm;rcases hm with(hm|((hm|hm)|hm))|hm;exact zb.1 (by simp[hm]);exact zb.1 (by rw[hkx];simp[hm]);exact SR b hm (by rw[Ha];simp);exact zb.1 (by rw[hkx];simp[hm]);exact zb.1 (by simp[hm]);rw[aG];refine aN.2 ⟨m1.1,aN.2 ⟨?_,m2.2.1,?_⟩,?_⟩;rw[aG];refine aN.2 ⟨m3.1,aN.2 ⟨SC,m4.2.1,?_⟩,?_⟩;rintro c hc d hd rfl;exact SR c hc (inx c (by simp[hd]));rintro c hc d hd rfl;rcases aB.1 hd with hd|hd;exact SR c hd (inx c (by simp[hc]));exact m3.2.2 c hc c (bj _ hd) rfl;rintro c hc d hd rfl;simp only[aB]at hc;rcases hc with(hc|hc)|hc;exact m2.2.2 c (by simp[hc]) c hd rfl;exact SR c hc (inx c (by simp[hd]));exact m2.2.2 c (by simp[hc]) c hd rfl;rintro c hc d hd rfl;simp only[aB]at hd;rcases hd with((hd|hd)|hd)|hd;exact m1.2.2 c hc c (by simp[hd]) rfl;exact SR c hd (inx c (by simp[hc]));exact m1.2.2 c hc c (by simp[hd]) rfl;exact m1.2.2 c hc c (by simp[hd]) rfl
   have alv:Fr (λc=>eQ (g'.fK c)\/c∈f2) w w':=⟨rfl,rfl,rfl,by show _<=(xj _ _ _ _ _).heap.size;rw[nz];exact bc _,λc _ hc=>X5 c (λe=>hc (.inr (by rw[Ha,e];simp)))⟩
   obtain⟨g2,Kf⟩:=tt w' g'.hw (xs.set n' x') (b::(f1++q1++f3)) ahv HN (λc hc=>by rcases Gd c hc with k|k;exact⟨by show _<(xj _ _ _ _ _).heap.size;rw[nz];exact(qn.ir c _ (B4 c k)).1,.inl k⟩;exact⟨by show _<(xj _ _ _ _ _).heap.size;rw[nz];exact(qn.ir c _ (X7 c k)).1,.inr (by rw[X7 c k];rfl)⟩) alv (λ_ _ _ _ _=>rfl)
   refine⟨undef,_,_,.inr ⟨rfl,fz⟩,?_,hk⟩
   rw[hd]
   have alx:i.toNat=n':=by omega
   rw[alx]
   exact⟨g2,Kf⟩
  ·cases hk
 cases hk;cases hk;rename_i t' i' q e' xs jk;split at hk;rename_i hee;subst hee;split at hk;rename_i hc;obtain⟨rfl,rfl⟩:=hc;simp only at hk;cases HL:aes xs i' i with|none=>rw[HL]at hk;simp[aa]at hk|some x0=>obtain⟨rfl,atm⟩:=aet HL;rw[HL]at hk;simp only[aa]at hk;split at hk;rename_i x' hof;exact SN hE hd ho hT hlen qn (by rw[hv,hob,eT]) (by rw[OV];exact hrt) zw jk hof hk;cases hk
 cases hk;cases hk;cases hk
theorem acs {E:Env}(hE:kQ P E.ty){o:Oper}{p x:Operand}(hd:o.dst=none)(ho:o.op=.store T p x)(h:qo C st a w){K:AS->aA R}(hk:zY E T p x st K=some r):oK P C o a w K r:=by unfold zY at hk;split at hk;rename_i sh s off hT hp;split at hk;rename_i gg vs cp vF;split at hk;rename_i cs lB;split at hk;rename_i hlen;split at hk;rename_i iW;exact Tk hE hd ho h hT hp vF lB hlen.1 hlen.2 iW hk;cases hk;cases hk;cases hk;cases hk;rename_i sh ep rt t e y i off hT hp;split at hk;rename_i gg vs cp vF;split at hk;rename_i hc;exact Tm hE hd ho h hT hp vF hc.1 hc.2 hk;cases hk;cases hk;cases hk
end Go.Dn
