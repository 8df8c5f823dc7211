import Derived.Test.YtfbhfnniblfpbaaGreatDnOps2
/- Part 3: an element of an owned slice is written. -/
namespace Go.Dn
open Go.RowKit
variable {P:Program} {C:Ctx} {st:AS} {a:Act} {w:World} {R:Type} {r:R}
variable {arr:Array Value} {gg:Bool} {e:CT} {off:Nat} {rt:kL} {sh:Shape} {T:TypeId} {vs:au AC} {us:ie}
theorem zw {o:Nat}(h:o+us.length<=arr.size)(j:Nat): (eC arr o us).toList[j]?=if o<=j/\j<o+us.length then us[j-o]? else arr.toList[j]?:=by
 rw[wG us arr o h];have hl:(arr.toList.take o).length=o:=by rw[bq];simp;omega
 by_cases h1:j<o;rw[mQ,aZ,bH (by omega),dz,aF h1];by_cases h2:j<o+us.length;rw[zip,aZ,bz (by omega),hl,bH (by omega)];rw[mQ,bz (by rw[aq];omega),aq,hl,bV];congr 1;omega
theorem ju {l:ie}(p n j:Nat):((l.drop p).take n)[j]?=if j<n then l[p+j]? else none:=by rw[dz];split;rw[bV];rfl
theorem Hh {o0 size n i:Nat}(Px:off+us.length<=size)(hn:o0+(n+1)*size<=arr.size)(hi:i≠n): ((eC arr (o0+n*size+off) us).toList.drop (o0+i*size)).take size=(arr.toList.drop (o0+i*size)).take size:=by
 have Dc:o0+n*size+size<=arr.size:=by rw[cB,eI]at hn;omega
 apply cS;intro j;rw[ju,ju];split;rename_i hj;rw[zw (by omega),aH];intro hc;rcases Nat.lt_or_gt_of_ne hi with h|h;have:(i+1)*size<=n*size:=cO _ h;rw[cB,eI]at this;omega;have:(n+1)*size<=i*size:=cO _ h;rw[cB,eI]at this;omega;rfl
theorem Jg {p size:Nat}(Px:off+us.length<=size)(Dc:p+size<=arr.size): ((eC arr (p+off) us).toList.drop p).take size= ((arr.toList.drop p).take size).take off++us++((arr.toList.drop p).take size).drop (off+us.length):=by
 have hl:((arr.toList.drop p).take size).length=size:=by simp;omega
 have Af:(((arr.toList.drop p).take size).take off).length=off:=by rw[bq,hl];omega
 apply cS;intro j;rw[ju];by_cases hj:j<size;rw[aF hj,zw (by omega)];by_cases h1:j<off;rw[mQ,aZ,bH (by omega),dz,aF h1,ju,aF hj];by_cases h2:j<off+us.length;rw[zip,aZ,bz (by omega),Af,bH (by omega)];congr 1;omega;rw[mQ,bz (by rw[aq];omega),aq,Af,bV,ju,show off+us.length+(j-(off+us.length))=j by omega,aF hj];rw[aH hj,bJ];simp only[aq,Af,bh,hl];omega
theorem aec {hw:Nat->Nat}{w:World}{v:Value}{xs:au e.D}{fp0:eo}(h:eP hw w (.sl e) [v] xs fp0){n:Nat}{x:e.D}(hx:xs[n]?=some x): ∃b o0 cap arr T fr f1 fx f3,v=.slice (some ⟨b,o0,none⟩) xs.length cap/\w.heap[b]?=some (.cells arr T fr)/\qw arr fr/\o0+(n+1)*e.size<=arr.size/\ eP hw w e ((arr.toList.drop (o0+n*e.size)).take e.size) x fx/\fp0=b::(f1++fx++f3)/\ ∀(w':World)(us:ie)(off:Nat)(x':e.D)(fx':eo),off+us.length<=e.size->w'.heap[b]?=some (.cells (eC arr (o0+n*e.size+off) us) T fr)-> (∀b'∈f1++f3,w'.heap[b']?=w.heap[b']?)->eP hw w' e (((eC arr (o0+n*e.size+off) us).toList.drop (o0+n*e.size)).take e.size) x' fx'-> eP hw w' (.sl e) [v] (xs.set n x') (b::(f1++fx'++f3)):=by
 obtain⟨u,hu,h⟩:=h;simp at hu;subst hu;have Lk:n<xs.length:=(aE.1 hx).1;rcases h with⟨⟨_,rfl⟩,rfl,rfl⟩|⟨b,o0,cap,arr,T,fr,fps,rfl,hb,tw,hs,hc,hh,rfl,hl,hr⟩;simp at hx;have Uw:fps[n]?=some fps[n]:=al (by omega);have H9:=Fh Uw;have hm:o0+(n+1)*e.size<=arr.size:=by rw[hs];exact Nat.add_le_add_left (cO _ (by omega)) _
 refine⟨b,o0,cap,arr,T,fr,(fps.take n).flatten,fps[n],(fps.drop (n+1)).flatten,rfl,hb,tw,hm,hr n x _ hx Uw,by rw[H9.1],?_⟩;intro w' us off x' fx' Px gQ hk fU;refine⟨_,rfl,.inr ⟨b,o0,cap,eC arr (o0+n*e.size+off) us,T,fr,fps.set n fx',by simp,gQ,λj hj=>tw j (by rwa[iz]at hj),by rw[iz];exact hs,by simpa using hc,by simpa using hh,by rw[H9.2],by simp[hl],?_⟩⟩;intro i y f hy hf;by_cases vS:i=n;subst vS;rw[br]at hy hf;simp only[cp,Lk]at hy;simp only[cp]at hf;rw[zip]at hf;simp at hy hf;subst hy;subst hf;exact fU;rw[aR (cY vS)]at hy hf;rw[Hh Px hm vS];refine eP.mono (hr i y f hy hf) (λb' aic=>⟨hk b' ?_,rfl⟩);have Pw:i<fps.length:=(aE.1 hf).1;have hfi:fps[i]=f:=by rw[al Pw]at hf;simpa using hf
 rcases Nat.lt_or_gt_of_ne vS with gB|hgt;refine bt _ (List.mem_flatten.2 ⟨f,?_,aic⟩);rw[List.mem_take_iff_getElem];exact⟨i,by omega,hfi⟩;refine bk _ (List.mem_flatten.2 ⟨f,?_,aic⟩);rw[List.mem_drop_iff_getElem];exact⟨i-(n+1),by omega,by rw[<-hfi];congr 1;omega⟩
theorem UJ {α:Type}{xs:au α}{i:Int}{x:α}(h:idx xs i=some x):∃n:Nat,i=n/\xs[n]?=some x:=by cases i with|ofNat n=>exact⟨n,rfl,h⟩|negSucc n=>simp[idx]at h
theorem Pr {E:Env}(hE:jA P E.ty){o:Oper}{p x:Operand}(hd:o.dst=none)(ho:o.op=.store T p x){K:AS->ax R}{t':Nat}{i:Int}{bM:AS}{g':Gh}(hT:iY E.ty T=some sh)(hlen:vs.length=sh.ct.size)(oy:dN C g' bM a w [(a.eval x,.val gg vs)]){b o0 len cap n:Nat}{q:ax Nat}{xs:au e.D}{x':e.D}(hv:a.eval p=.pointer (some ⟨b,o0+n*e.size,none⟩))(hrt:g'.hdr t'=.slice (some ⟨b,o0,none⟩) len cap)(vS:i=n)(gL:bM.eL rt=some (.sl (.eY (some t') i q) e xs))(hof:jt e vs=some (x',[]))(hk:K {bM.eT rt (.sl (.own (some t')) e (xs.set i.toNat x'))with ep:=bM.ep+1}=some r):mW P C o a w K r:=by
 obtain⟨v0,f2,ed,E1,Af,ri⟩:=oy.S4 rt (by simp) gL;obtain⟨_,⟨k,hik,fU⟩,aiI⟩:=ed;have hkn:k=n:=by omega
 subst hkn;obtain⟨b2,o2,W2,arr,T',fr,fps,Ll,kz,tw,hs,hc,hh,EH,hl,hkl,hfk,hr⟩:=fU;have kz:w.heap[b2]?=some (.cells arr T' fr):=kz;have h1:v0=g'.hdr t':=(aiI t' rfl).2;rw[hrt,Ll]at h1;simp only[Value.slice.injEq,ba,Addr.mk.injEq]at h1;obtain⟨⟨rfl,rfl,_⟩,_⟩:=h1;obtain⟨fh,⟨us,eR,WA⟩,Ph,UA⟩:=oy.hands 0 _ _ rfl;obtain⟨q1,q2,hq,hq1,hq2⟩:=rK WA hof;have Uu:us.drop e.size=[]:=by cases hd0:us.drop e.size with|nil=>rfl|cons _ _=>rw[hd0]at hq2;exact hq2.elim
 rw[Uu]at hq2;have ahq:q2=[]:=hq2;subst ahq;rw[bA]at hq;subst hq;have hus:us.take e.size=us:=by have:=bW e.size us;rw[Uu,bA]at this;exact this
 rw[hus]at hq1;have hul:us.length=e.size:=eP.length hq1;have uq:o2+(k+1)*e.size<=arr.size:=by rw[hs];exact Nat.add_le_add_left (cO _ (by omega)) _
 have aaI:o2+k*e.size+e.size<=arr.size:=by rw[cB,eI]at uq;omega
 let w':=vi w b2 (eC arr (o2+k*e.size+0) us) T' fr;have G5:=mc kz;have Uy:∀c,c≠b2->w'.heap[c]?=w.heap[c]?:=λc hc=>mP hc;have aoS:=WA.length;have UG:=Er (P:=P) (w:=w) (hE T sh hT) b2 (o2+k*e.size+0) eR (by omega) (λu hu=>eP.ni hq1 u hu) kz tw;have dX:(execOp a.eval o).run P w=.ok .skip w':=by simp only[execOp,ho,hv,Instr.storeAt,Instr.sureAddr,Sem.run_bind,Sem.run_pure,Result.andThen_ok];show((storeVar T ⟨b2,o2+k*e.size+0,none⟩ (a.eval x)).run P w).andThen _=_;rw[UG];rfl
 have H9:=Fh hfk;have xx:b2∉fps.flatten:=by rw[EH]at E1;exact(dj.1 E1).1
 have hnf:fps.flatten.Nodup:=by rw[EH]at E1;exact(dj.1 E1).2
 have Pv:∀c∈fh,c∉f2:=by intro c hc hm;have h1:=UA c hc;rw[Af c hm]at h1;cases rt<;>cases h1
 have aim:∀c∈fh,c≠b2:=λc hc e=>Pv c hc (by rw[EH,e];simp);have agB:∀c,c∈(fps.set k fh).flatten↔c∈fps.flatten\/c∈fh:=by intro c;rw[H9.2,H9.1];simp only[aA,List.not_mem_nil,or_false];constructor;rintro((h|h)|h)<;>simp[h];rintro((h|h)|h)<;>simp[h]
 have adq:eP g'.hw w' (.sl e) [v0] (xs.set k x') (b2::(fps.set k fh).flatten):=by
  refine⟨v0,rfl,.inr ⟨b2,o2,W2,eC arr (o2+k*e.size+0) us,T',fr,fps.set k fh,by rw[Ll];simp,yb G5,λj hj=>tw j (by rwa[iz]at hj),by rw[iz];exact hs,by simpa using hc,by rw[aB];exact hh,rfl,by simp[hl],?_⟩⟩;intro j y f hy hf;by_cases hjk:j=k;subst hjk;rw[br]at hy hf;simp only[cp,hkl]at hy;simp only[cp]at hf;rw[zip]at hf;simp at hy hf;subst hy;subst hf;rw[Jg (by omega) aaI];have e1:((arr.toList.drop (o2+j*e.size)).take e.size).take 0++us++((arr.toList.drop (o2+j*e.size)).take e.size).drop (0+us.length)=us:=by rw[List.take_zero,bO,df (by simp;omega),bA]
  rw[e1];exact eP.mono hq1 (λc hc=>⟨Uy c (aim c hc),rfl⟩);rw[aR (cY hjk)]at hy hf;rw[Hh (by omega) uq hjk];refine eP.mono (hr j y f hjk hy hf) (λc hc=>⟨Uy c (λe0=>xx ?_),rfl⟩);rw[<-e0];exact List.mem_flatten.2 ⟨f,bn hf,hc⟩
 have aot:(b2::(fps.set k fh).flatten).Nodup:=by
  refine dj.2 ⟨λhm=>?_,?_⟩;rcases(agB b2).1 hm with h|h;exact xx h;exact aim b2 h rfl;rw[H9.2];rw[H9.1,bA]at hnf;have m:=aJ.1 hnf;have aio:∀c,c∈(fps.take k).flatten\/c∈(fps.drop (k+1)).flatten->c∈f2:=by intro c hc;rw[EH,H9.1];rcases hc with hc|hc<;>simp[hc]
  refine aJ.2 ⟨aJ.2 ⟨m.1,Ph,?_⟩,m.2.1,?_⟩;rintro c hc d hd rfl;exact Pv c hd (aio c (.inl hc));rintro c hc d hd rfl;rcases aA.1 hc with hc|hc;exact m.2.2 c hc c hd rfl;exact Pv c hc (aio c (.inr hd))
 have aom:i.toNat=k:=by omega
 rw[aom]at hk
 obtain⟨g2,HM⟩:=ri w' g'.hw (.sl (.own (some t')) e (xs.set k x')) (b2::(fps.set k fh).flatten) (λc' hle Qz EV=>⟨by rw[Qz,EV];exact adq,λt ht=>by simp at ht;subst ht;have h0:=aiI t' rfl;exact⟨(hle.hdr t' h0.1).1,by rw[(hle.hdr t' h0.1).2];exact h0.2⟩⟩) aot (λc hc=>by
  show _<(vi _ _ _ _ _).heap.size/\_
  rw[lM]
  rcases cg.1 hc with rfl|hc
  ·exact⟨G5,.inl (by rw[EH];simp)⟩
  ·rcases(agB c).1 hc with h|h
   ·have:c∈f2:=by rw[EH];simp[h]
    exact⟨(oy.fR c _ (Af c this)).1,.inl this⟩
   ·exact⟨(oy.fR c _ (UA c h)).1,.inr (by rw[UA c h];rfl)⟩)
  ⟨rfl,rfl,rfl,by show _<=(vi _ _ _ _ _).heap.size;rw[lM];exact aU _,λc _ hc=>Uy c (λe=>hc (.inr (by rw[EH,e];simp)))⟩ (λ_ _ _ _ _=>rfl)
 refine⟨undef,_,_,.inr ⟨rfl,dX⟩,?_,hk⟩;rw[hd];exact⟨g2,HM⟩
theorem P2 {E:Env}(hE:jA P E.ty){o:Oper}{p x:Operand}(hd:o.dst=none)(ho:o.op=.store T p x)(h:oz C st a w){K:AS->ax R}{ep t:Nat}{y:e.D}{i:Int}{bM:AS}(hT:iY E.ty T=some sh)(hp:st.rd p=.val false [.Cd (.loc ep (some (rt,t))) e y i off])(tI:st.take x=(.val gg vs,bM))(hlen:vs.length=sh.ct.size)(gy:off+sh.ct.size<=e.size)(hk:bM.pZ rt t e i off vs K=some r):mW P C o a w K r:=by
 obtain⟨g,hg⟩:=h;have vG:=hg.rd p;rw[hp]at vG;obtain⟨_,b,ob,hv,_,_,G7⟩:=ew vG;obtain⟨_,n,o0,len,cap,vS,hrt,Lk,hob⟩:=G7 rt t rfl;obtain⟨g',⟨Km,Gs,L3,_⟩,oy⟩:=hg.aeT x;rw[tI]at oy;unfold AS.pZ at hk;split at hk;rename_i t' e' xs gL;split at hk;rename_i hee;subst hee;split at hk
 ·rename_i htt
  subst htt
  simp only at hk
  cases Fq:idx xs i with
  |none=>rw[Fq]at hk;simp[aa]at hk
  |some x0=>
  rw[Fq]at hk
  simp only[aa]at hk
  split at hk
  ·rename_i x' hof
   obtain⟨n',Dc,hx0⟩:=UJ Fq
   have NB:n'=n:=by omega
   subst NB
   obtain⟨v0,f2,QC,fU,E1,Af,ri⟩:=oy.S5 rt gL
   have QC: .slice (some ⟨b,o0,none⟩) len cap=v0:=by have h1:=QC t' rfl;have h2:g.hdr t'=.slice (some ⟨b,o0,none⟩) len cap:=hrt;rw[h1,L3,h2]
   obtain⟨b2,o2,W2,arr,T',fr,f1,fx,f3,Ll,kz,tw,uq,NF,EI,Fv⟩:=aec fU hx0
   rw[<-QC]at Ll
   simp only[Value.slice.injEq,ba,Addr.mk.injEq]at Ll
   obtain⟨⟨rfl,rfl,_⟩,_⟩:=Ll
   obtain⟨fh,⟨us,eR,WA⟩,Ph,UA⟩:=oy.hands 0 _ _ rfl
   have hul:=WA.length
   have agA:off+us.length<=e'.size:=by omega
   have aaI:(o0+n'*e'.size)+e'.size<=arr.size:=by rw[cB,eI]at uq;omega
   have aiC:=vw (c:=cQ C g' bM w) NF
   obtain⟨k1,k2,k3,hkx,r1,r2,r3⟩:=aiC.mid off us.length
   have ail:=E1
   rw[EI]at ail
   have xx:=dj.1 ail
   have Pv:∀c∈fh,c∉f2:=by intro c hc hm;have h1:=UA c hc;rw[Af c hm]at h1;cases rt<;>cases h1
   let w':=vi w b (eC arr ((o0+n'*e'.size)+off) us) T' fr
   have G5:=mc kz
   have Uy:∀c,c≠b->w'.heap[c]?=w.heap[c]?:=λc hc=>mP hc
   have aht:∀u∈us,u.oneCell'=true:=by
    have Kl:bE (cQ C g' bM w) (((arr.toList.drop (o0+n'*e'.size)).take e'.size).take off++us++((arr.toList.drop (o0+n'*e'.size)).take e'.size).drop (off+us.length))
     (dZ (cellsOf e' (.own none) x0) off vs) (k1++fh++k3):=by
     have e2:dZ (cellsOf e' (.own none) x0) off vs=(cellsOf e' (.own none) x0).take off++vs++(cellsOf e' (.own none) x0).drop (off+us.length):=by simp only[dZ];rw[hul]
     rw[e2]
     exact(r1.append WA).append r3
    obtain⟨q1,q2,hq,hq1,hq2⟩:=rK Kl hof;have aiu:(((arr.toList.drop (o0+n'*e'.size)).take e'.size).take off++us++((arr.toList.drop (o0+n'*e'.size)).take e'.size).drop (off+us.length)).length=e'.size:=by rw[Kl.length,Hp (by rw[kS];omega),kS]
    rw[bL (by omega)]at hq1;intro u hu;exact eP.ni hq1 u (by simp[hu])
   have UG:=Er (P:=P) (w:=w) (hE T sh hT) b ((o0+n'*e'.size)+off) eR (by omega) aht kz tw
   have dX:(execOp a.eval o).run P w=.ok .skip w':=by simp only[execOp,ho,hv,Instr.storeAt,Instr.sureAddr,Sem.run_bind,Sem.run_pure,Result.andThen_ok];show((storeVar T ⟨b,ob+off,none⟩ (a.eval x)).run P w).andThen _=_;rw[hob,UG];rfl
   have hle:(cQ C g' bM w).Le ⟨g'.hw,g'.β,C.A,g'.hdr,mX bM,bM.ep+1,jm bM,w'⟩:=by
    refine⟨rfl,λ_ ht=>⟨ht,rfl⟩,λk c o u hA hu=>?_,Nat.le_succ _,λ_ hs=>⟨hs,rfl⟩,λhe=>absurd he (Nat.succ_ne_self _)⟩;have DT:c≠b:=by rintro rfl;exact oy.NY (Af c (by rw[EI];simp)) k o hA
    rw[World.cell?_of_block (a:=⟨c,o,none⟩) (Uy c DT)];exact hu
   have air:∀c∈fx,c≠b:=by rintro c hc rfl;exact xx.1 (by simp[hc])
   have Kl:bE ⟨g'.hw,g'.β,C.A,g'.hdr,mX bM,bM.ep+1,jm bM,w'⟩
    (((eC arr ((o0+n'*e'.size)+off) us).toList.drop (o0+n'*e'.size)).take e'.size) (dZ (cellsOf e' (.own none) x0) off vs) (k1++fh++k3):=by
    have e2:dZ (cellsOf e' (.own none) x0) off vs=(cellsOf e' (.own none) x0).take off++vs++(cellsOf e' (.own none) x0).drop (off+us.length):=by simp only[dZ];rw[hul]
    rw[e2,Jg agA aaI]
    refine((r1.mono hle (λc hc=>⟨Uy c (air c (by rw[hkx];simp[hc])),rfl⟩)).append
     (WA.mono hle (λc hc=>⟨Uy c (λe=>Pv c hc (by rw[EI,e];simp)),rfl⟩))).append
     (r3.mono hle (λc hc=>⟨Uy c (air c (by rw[hkx];simp[hc])),rfl⟩))
   obtain⟨q1,q2,hq,hq1,hq2⟩:=rK Kl hof
   have aiu:(((eC arr ((o0+n'*e'.size)+off) us).toList.drop (o0+n'*e'.size)).take e'.size).length=e'.size:=by rw[Kl.length,Hp (by rw[kS];omega),kS]
   rw[df (by omega)]at hq2
   have ahq:q2=[]:=hq2
   subst ahq
   rw[bL (by omega)]at hq1
   rw[bA]at hq
   have adq:=Fv w' us off x' q1 agA (yb G5) (λc hc=>Uy c (λe=>xx.1 (by rw[<-e];rcases aA.1 hc with k|k<;>simp[k]))) hq1
   have DS:∀c∈b::(f1++q1++f3),c∈f2\/c∈fh:=by intro c hc;rw[<-hq]at hc;simp only[cg,aA]at hc;rw[EI,hkx];simp only[cg,aA];rcases hc with hc|((hc|((hc|hc)|hc))|hc)<;>simp[hc]
   have Ft:(b::(f1++q1++f3)).Nodup:=by
    have hx2:=xx.2;rw[hkx]at hx2;rw[aZ]at hx2;have m1:=aJ.1 hx2;have m2:=aJ.1 m1.2.1;have m2a:=m2.1;rw[aZ]at m2a;have m3:=aJ.1 m2a;have m4:=aJ.1 m3.2.1;have inx:∀c,(c∈f1\/c∈k1\/c∈k3\/c∈f3)->c∈f2:=by intro c hc;rw[EI,hkx];simp only[cg,aA];rcases hc with hc|hc|hc|hc<;>simp[hc]
    rw[<-hq];refine dj.2 ⟨λhm=>?_,?_⟩;simp only[aA]at hm;rcases hm with(hm|((hm|hm)|hm))|hm;exact xx.1 (by simp[hm]);exact xx.1 (by rw[hkx];simp[hm]);exact Pv b hm (by rw[EI];simp);exact xx.1 (by rw[hkx];simp[hm]);exact xx.1 (by simp[hm]);rw[aZ];refine aJ.2 ⟨m1.1,aJ.2 ⟨?_,m2.2.1,?_⟩,?_⟩;rw[aZ];refine aJ.2 ⟨m3.1,aJ.2 ⟨Ph,m4.2.1,?_⟩,?_⟩;rintro c hc d hd rfl;exact Pv c hc (inx c (by simp[hd]));rintro c hc d hd rfl;rcases aA.1 hd with hd|hd;exact Pv c hd (inx c (by simp[hc]));exact m3.2.2 c hc c (bk _ hd) rfl;rintro c hc d hd rfl;simp only[aA]at hc;rcases hc with(hc|hc)|hc;exact m2.2.2 c (by simp[hc]) c hd rfl;exact Pv c hc (inx c (by simp[hd]));exact m2.2.2 c (by simp[hc]) c hd rfl;rintro c hc d hd rfl;simp only[aA]at hd;rcases hd with((hd|hd)|hd)|hd;exact m1.2.2 c hc c (by simp[hd]) rfl;exact Pv c hd (inx c (by simp[hc]));exact m1.2.2 c hc c (by simp[hd]) rfl;exact m1.2.2 c hc c (by simp[hd]) rfl
   have ag9:Fr (λc=>dD (g'.ej c)\/c∈f2) w w':=⟨rfl,rfl,rfl,by show _<=(vi _ _ _ _ _).heap.size;rw[lM];exact aU _,λc _ hc=>Uy c (λe=>hc (.inr (by rw[EI,e];simp)))⟩
   obtain⟨g2,HM⟩:=ri w' g'.hw (xs.set n' x') (b::(f1++q1++f3)) adq Ft (λc hc=>by rcases DS c hc with k|k;exact⟨by show _<(vi _ _ _ _ _).heap.size;rw[lM];exact(oy.fR c _ (Af c k)).1,.inl k⟩;exact⟨by show _<(vi _ _ _ _ _).heap.size;rw[lM];exact(oy.fR c _ (UA c k)).1,.inr (by rw[UA c k];rfl)⟩) ag9 (λ_ _ _ _ _=>rfl)
   refine⟨undef,_,_,.inr ⟨rfl,dX⟩,?_,hk⟩
   rw[hd]
   have ahb:i.toNat=n':=by omega
   rw[ahb]
   exact⟨g2,HM⟩
  ·cases hk
 cases hk;cases hk;rename_i t' i' q e' xs gL;split at hk;rename_i hee;subst hee;split at hk;rename_i hc;obtain⟨rfl,rfl⟩:=hc;simp only at hk;cases Fq:aaJ xs i' i with|none=>rw[Fq]at hk;simp[aa]at hk|some x0=>obtain⟨rfl,aoY⟩:=aaK Fq;rw[Fq]at hk;simp only[aa]at hk;split at hk;rename_i x' hof;exact Pr hE hd ho hT hlen oy (by rw[hv,hob,eh]) (by rw[L3];exact hrt) vS gL hof hk;cases hk
 cases hk;cases hk;cases hk
theorem YN {E:Env}(hE:jA P E.ty){o:Oper}{p x:Operand}(hd:o.dst=none)(ho:o.op=.store T p x)(h:oz C st a w){K:AS->ax R}(hk:xY E T p x st K=some r):mW P C o a w K r:=by unfold xY at hk;split at hk;rename_i sh s off hT hp;split at hk;rename_i gg vs bM tI;split at hk;rename_i cs jX;split at hk;rename_i hlen;split at hk;rename_i gy;exact P0 hE hd ho h hT hp tI jX hlen.1 hlen.2 gy hk;cases hk;cases hk;cases hk;cases hk;rename_i sh ep rt t e y i off hT hp;split at hk;rename_i gg vs bM tI;split at hk;rename_i hc;exact P2 hE hd ho h hT hp tI hc.1 hc.2 hk;cases hk;cases hk;cases hk
end Go.Dn
