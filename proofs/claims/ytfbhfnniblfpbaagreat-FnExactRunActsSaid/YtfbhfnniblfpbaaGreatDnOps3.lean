import Derived.Test.YtfbhfnniblfpbaaGreatDnOps2
/- Part 3: an element of an owned slice is written. -/
namespace Go.Dn
open Go.RowKit
variable {P:Program} {C:Ctx} {st:AS} {a:Act} {w:World} {R:Type} {r:R}
variable {arr:Array Value} {gg:Bool} {e:CT} {off:Nat} {rt:kv} {sh:Shape} {T:TypeId} {vs:aq AC} {us:ie}
theorem Ad {o:Nat}(h:o+us.length<=arr.size)(j:Nat): (eF arr o us).toList[j]?=if o<=j/\j<o+us.length then us[j-o]? else arr.toList[j]?:=by
 rw[xm us arr o h];have hl:(arr.toList.take o).length=o:=by rw[bm];simp;omega
 by_cases h1:j<o;rw[mI,aN,bw (by omega),cW,aG h1];by_cases h2:j<o+us.length;rw[zip,aN,bq (by omega),hl,bw (by omega)];rw[mI,bq (by rw[aw];omega),aw,hl,bJ];congr 1;omega
theorem jl {l:ie}(p n j:Nat):((l.drop p).take n)[j]?=if j<n then l[p+j]? else none:=by rw[cW];split;rw[bJ];rfl
theorem IZ {o0 size n i:Nat}(QG:off+us.length<=size)(hn:o0+(n+1)*size<=arr.size)(hi:i≠n): ((eF arr (o0+n*size+off) us).toList.drop (o0+i*size)).take size=(arr.toList.drop (o0+i*size)).take size:=by
 have Cb:o0+n*size+size<=arr.size:=by rw[cn,dQ]at hn;omega
 apply cM;intro j;rw[jl,jl];split;rename_i hj;rw[Ad (by omega),aF];intro hc;rcases Nat.lt_or_gt_of_ne hi with h|h;have:(i+1)*size<=n*size:=bZ _ h;rw[cn,dQ]at this;omega;have:(n+1)*size<=i*size:=bZ _ h;rw[cn,dQ]at this;omega;rfl
theorem KF {p size:Nat}(QG:off+us.length<=size)(Cb:p+size<=arr.size): ((eF arr (p+off) us).toList.drop p).take size= ((arr.toList.drop p).take size).take off++us++((arr.toList.drop p).take size).drop (off+us.length):=by
 have hl:((arr.toList.drop p).take size).length=size:=by simp;omega
 have AA:(((arr.toList.drop p).take size).take off).length=off:=by rw[bm,hl];omega
 apply cM;intro j;rw[jl];by_cases hj:j<size;rw[aG hj,Ad (by omega)];by_cases h1:j<off;rw[mI,aN,bw (by omega),cW,aG h1,jl,aG hj];by_cases h2:j<off+us.length;rw[zip,aN,bq (by omega),AA,bw (by omega)];congr 1;omega;rw[mI,bq (by rw[aw];omega),aw,AA,bJ,jl,show off+us.length+(j-(off+us.length))=j by omega,aG hj];rw[aF hj,bH];simp only[aw,AA,bj,hl];omega
theorem afl {hw:Nat->Nat}{w:World}{v:Value}{xs:aq e.D}{fp0:dX}(h:ez hw w (.sl e) [v] xs fp0){n:Nat}{x:e.D}(hx:xs[n]?=some x): ∃b o0 cap arr T fr f1 fx f3,v=.slice (some ⟨b,o0,none⟩) xs.length cap/\w.heap[b]?=some (.cells arr T fr)/\qe arr fr/\o0+(n+1)*e.size<=arr.size/\ ez hw w e ((arr.toList.drop (o0+n*e.size)).take e.size) x fx/\fp0=b::(f1++fx++f3)/\ ∀(w':World)(us:ie)(off:Nat)(x':e.D)(fx':dX),off+us.length<=e.size->w'.heap[b]?=some (.cells (eF arr (o0+n*e.size+off) us) T fr)-> (∀b'∈f1++f3,w'.heap[b']?=w.heap[b']?)->ez hw w' e (((eF arr (o0+n*e.size+off) us).toList.drop (o0+n*e.size)).take e.size) x' fx'-> ez hw w' (.sl e) [v] (xs.set n x') (b::(f1++fx'++f3)):=by
 obtain⟨u,hu,h⟩:=h;simp at hu;subst hu;have JS:n<xs.length:=(aD.1 hx).1;rcases h with⟨⟨_,rfl⟩,rfl,rfl⟩|⟨b,o0,cap,arr,T,fr,fps,rfl,hb,qV,hs,hc,hh,rfl,hl,hr⟩;simp at hx;have NI:fps[n]?=some fps[n]:=al (by omega);have IA:=Dc NI;have hm:o0+(n+1)*e.size<=arr.size:=by rw[hs];exact Nat.add_le_add_left (bZ _ (by omega)) _
 refine⟨b,o0,cap,arr,T,fr,(fps.take n).flatten,fps[n],(fps.drop (n+1)).flatten,rfl,hb,qV,hm,hr n x _ hx NI,by rw[IA.1],?_⟩;intro w' us off x' fx' QG gL hk eR;refine⟨_,rfl,.inr ⟨b,o0,cap,eF arr (o0+n*e.size+off) us,T,fr,fps.set n fx',by simp,gL,λj hj=>qV j (by rwa[iD]at hj),by rw[iD];exact hs,by simpa using hc,by simpa using hh,by rw[IA.2],by simp[hl],?_⟩⟩;intro i y f hy hf;by_cases uw:i=n;subst uw;rw[bl]at hy hf;simp only[bL,JS]at hy;simp only[bL]at hf;rw[zip]at hf;simp at hy hf;subst hy;subst hf;exact eR;rw[aO (cJ uw)]at hy hf;rw[IZ QG hm uw];refine ez.mono (hr i y f hy hf) (λb' aeb=>⟨hk b' ?_,rfl⟩);have OP:i<fps.length:=(aD.1 hf).1;have hfi:fps[i]=f:=by rw[al OP]at hf;simpa using hf
 rcases Nat.lt_or_gt_of_ne uw with gV|hgt;refine bk _ (List.mem_flatten.2 ⟨f,?_,aeb⟩);rw[List.mem_take_iff_getElem];exact⟨i,by omega,hfi⟩;refine ba _ (List.mem_flatten.2 ⟨f,?_,aeb⟩);rw[List.mem_drop_iff_getElem];exact⟨i-(n+1),by omega,by rw[<-hfi];congr 1;omega⟩
theorem OU {α:Type}{xs:aq α}{i:Int}{x:α}(h:idx xs i=some x):∃n:Nat,i=n/\xs[n]?=some x:=by cases i with|ofNat n=>exact⟨n,rfl,h⟩|negSucc n=>simp[idx]at h
theorem QD {E:Env}(hE:js P E.ty){o:Oper}{p x:Operand}(hd:o.dst=none)(ho:o.op=.store T p x){K:AS->au R}{t':Nat}{i:Int}{st':AS}{g':Gh}(hT:iV E.ty T=some sh)(hlen:vs.length=sh.ct.size)(na:dx C g' st' a w [(a.eval x,.val gg vs)]){b o0 len cap n:Nat}{q:au Nat}{xs:aq e.D}{x':e.D}(hv:a.eval p=.pointer (some ⟨b,o0+n*e.size,none⟩))(hrt:g'.hdr t'=.slice (some ⟨b,o0,none⟩) len cap)(uw:i=n)(gX:st'.eM rt=some (.sl (.fe (some t') i q) e xs))(hof:iS e vs=some (x',[]))(hk:K {st'.eU rt (.sl (.own (some t')) e (xs.set i.toNat x'))with ep:=st'.ep+1}=some r):nb P C o a w K r:=by
 obtain⟨v0,f2,dD,C2,AA,lG⟩:=na.Ub rt (by simp) gX;obtain⟨_,⟨k,hik,eR⟩,ajB⟩:=dD;have hkn:k=n:=by omega
 subst hkn;obtain⟨b2,o2,U6,arr,T',fr,fps,MA,jw,qV,hs,hc,hh,H5,hl,hkl,hfk,hr⟩:=eR;have jw:w.heap[b2]?=some (.cells arr T' fr):=jw;have h1:v0=g'.hdr t':=(ajB t' rfl).2;rw[hrt,MA]at h1;simp only[Value.slice.injEq,aZ,Addr.mk.injEq]at h1;obtain⟨⟨rfl,rfl,_⟩,_⟩:=h1;obtain⟨fh,⟨us,eh,XC⟩,Mz,VC⟩:=na.hands 0 _ _ rfl;obtain⟨q1,q2,hq,Yx,Yy⟩:=oz XC hof;have Vz:us.drop e.size=[]:=by cases hd0:us.drop e.size with|nil=>rfl|cons _ _=>rw[hd0]at Yy;exact Yy.elim
 rw[Vz]at Yy;have aev:q2=[]:=Yy;subst aev;rw[bp]at hq;subst hq;have QJ:us.take e.size=us:=by have:=cp e.size us;rw[Vz,bp]at this;exact this
 rw[QJ]at Yx;have hul:us.length=e.size:=ez.length Yx;have tw:o2+(k+1)*e.size<=arr.size:=by rw[hs];exact Nat.add_le_add_left (bZ _ (by omega)) _
 have abD:o2+k*e.size+e.size<=arr.size:=by rw[cn,dQ]at tw;omega
 let w':=vt w b2 (eF arr (o2+k*e.size+0) us) T' fr;have II:=mr jw;have RE:∀c,c≠b2->w'.heap[c]?=w.heap[c]?:=λc hc=>mY hc;have aq0:=XC.length;have VJ:=FX (P:=P) (w:=w) (hE T sh hT) b2 (o2+k*e.size+0) eh (by omega) (λu hu=>ez.np Yx u hu) jw qV;have dJ:(execOp a.eval o).run P w=.ok .skip w':=by simp only[execOp,ho,hv,Instr.storeAt,Instr.sureAddr,Sem.run_bind,Sem.run_pure,Result.andThen_ok];show((storeVar T ⟨b2,o2+k*e.size+0,none⟩ (a.eval x)).run P w).andThen _=_;rw[VJ];rfl
 have IA:=Dc hfk;have ti:b2∉fps.flatten:=by rw[H5]at C2;exact(cQ.1 C2).1
 have hnf:fps.flatten.Nodup:=by rw[H5]at C2;exact(cQ.1 C2).2
 have QF:∀c∈fh,c∉f2:=by intro c hc hm;have h1:=VC c hc;rw[AA c hm]at h1;cases rt<;>cases h1
 have ajh:∀c∈fh,c≠b2:=λc hc e=>QF c hc (by rw[H5,e];simp);have My:∀c,c∈(fps.set k fh).flatten↔c∈fps.flatten\/c∈fh:=by intro c;rw[IA.2,IA.1];simp only[az,List.not_mem_nil,or_false];constructor;rintro((h|h)|h)<;>simp[h];rintro((h|h)|h)<;>simp[h]
 have aes:ez g'.hw w' (.sl e) [v0] (xs.set k x') (b2::(fps.set k fh).flatten):=by
  refine⟨v0,rfl,.inr ⟨b2,o2,U6,eF arr (o2+k*e.size+0) us,T',fr,fps.set k fh,by rw[MA];simp,yB II,λj hj=>qV j (by rwa[iD]at hj),by rw[iD];exact hs,by simpa using hc,by rw[aH];exact hh,rfl,by simp[hl],?_⟩⟩;intro j y f hy hf;by_cases hjk:j=k;subst hjk;rw[bl]at hy hf;simp only[bL,hkl]at hy;simp only[bL]at hf;rw[zip]at hf;simp at hy hf;subst hy;subst hf;rw[KF (by omega) abD];have e1:((arr.toList.drop (o2+j*e.size)).take e.size).take 0++us++((arr.toList.drop (o2+j*e.size)).take e.size).drop (0+us.length)=us:=by rw[List.take_zero,bU,cS (by simp;omega),bp]
  rw[e1];exact ez.mono Yx (λc hc=>⟨RE c (ajh c hc),rfl⟩);rw[aO (cJ hjk)]at hy hf;rw[IZ (by omega) tw hjk];refine ez.mono (hr j y f hjk hy hf) (λc hc=>⟨RE c (λe0=>ti ?_),rfl⟩);rw[<-e0];exact List.mem_flatten.2 ⟨f,cU hf,hc⟩
 have aqB:(b2::(fps.set k fh).flatten).Nodup:=by
  refine cQ.2 ⟨λhm=>?_,?_⟩;rcases(My b2).1 hm with h|h;exact ti h;exact ajh b2 h rfl;rw[IA.2];rw[IA.1,bp]at hnf;have m:=aB.1 hnf;have aij:∀c,c∈(fps.take k).flatten\/c∈(fps.drop (k+1)).flatten->c∈f2:=by intro c hc;rw[H5,IA.1];rcases hc with hc|hc<;>simp[hc]
  refine aB.2 ⟨aB.2 ⟨m.1,Mz,?_⟩,m.2.1,?_⟩;rintro c hc d hd rfl;exact QF c hd (aij c (.inl hc));rintro c hc d hd rfl;rcases az.1 hc with hc|hc;exact m.2.2 c hc c hd rfl;exact QF c hc (aij c (.inr hd))
 have aqu:i.toNat=k:=by omega
 rw[aqu]at hk
 obtain⟨g2,Ju⟩:=lG w' g'.hw (.sl (.own (some t')) e (xs.set k x')) (b2::(fps.set k fh).flatten) (λc' hle Nh B7=>⟨by rw[Nh,B7];exact aes,λt ht=>by simp at ht;subst ht;have h0:=ajB t' rfl;exact⟨(hle.hdr t' h0.1).1,by rw[(hle.hdr t' h0.1).2];exact h0.2⟩⟩) aqB (λc hc=>by
  show _<(vt _ _ _ _ _).heap.size/\_
  rw[lV]
  rcases cv.1 hc with rfl|hc
  ·exact⟨II,.inl (by rw[H5];simp)⟩
  ·rcases(My c).1 hc with h|h
   ·have:c∈f2:=by rw[H5];simp[h]
    exact⟨(na.fB c _ (AA c this)).1,.inl this⟩
   ·exact⟨(na.fB c _ (VC c h)).1,.inr (by rw[VC c h];rfl)⟩)
  ⟨rfl,rfl,rfl,by show _<=(vt _ _ _ _ _).heap.size;rw[lV];exact aR _,λc _ hc=>RE c (λe=>hc (.inr (by rw[H5,e];simp)))⟩ (λ_ _ _ _ _=>rfl)
 refine⟨undef,_,_,.inr ⟨rfl,dJ⟩,?_,hk⟩;rw[hd];exact⟨g2,Ju⟩
theorem Q8 {E:Env}(hE:js P E.ty){o:Oper}{p x:Operand}(hd:o.dst=none)(ho:o.op=.store T p x)(h:nv C st a w){K:AS->au R}{ep t:Nat}{y:e.D}{i:Int}{st':AS}(hT:iV E.ty T=some sh)(hp:st.rd p=.val false [.Da (.loc ep (some (rt,t))) e y i off])(tF:st.take x=(.val gg vs,st'))(hlen:vs.length=sh.ct.size)(gI:off+sh.ct.size<=e.size)(hk:st'.pG rt t e i off vs K=some r):nb P C o a w K r:=by
 obtain⟨g,hg⟩:=h;have vS:=hg.rd p;rw[hp]at vS;obtain⟨_,b,ob,hv,_,_,IM⟩:=dU vS;obtain⟨_,n,o0,len,cap,uw,hrt,JS,hob⟩:=IM rt t rfl;obtain⟨g',⟨Jx,Ca,Ka,_⟩,na⟩:=hg.af2 x;rw[tF]at na;unfold AS.pG at hk;split at hk;rename_i t' e' xs gX;split at hk;rename_i hee;subst hee;split at hk
 ·rename_i htt
  subst htt
  simp only at hk
  cases E1:idx xs i with
  |none=>rw[E1]at hk;simp[aa]at hk
  |some x0=>
  rw[E1]at hk
  simp only[aa]at hk
  split at hk
  ·rename_i x' hof
   obtain⟨n',Cb,XD⟩:=OU E1
   have Jv:n'=n:=by omega
   subst Jv
   obtain⟨v0,f2,RG,eR,C2,AA,lG⟩:=na.Uc rt gX
   have RG: .slice (some ⟨b,o0,none⟩) len cap=v0:=by have h1:=RG t' rfl;have h2:g.hdr t'=.slice (some ⟨b,o0,none⟩) len cap:=hrt;rw[h1,Ka,h2]
   obtain⟨b2,o2,U6,arr,T',fr,f1,fx,f3,MA,jw,qV,tw,IK,C1,DT⟩:=afl eR XD
   rw[<-RG]at MA
   simp only[Value.slice.injEq,aZ,Addr.mk.injEq]at MA
   obtain⟨⟨rfl,rfl,_⟩,_⟩:=MA
   obtain⟨fh,⟨us,eh,XC⟩,Mz,VC⟩:=na.hands 0 _ _ rfl
   have hul:=XC.length
   have ahM:off+us.length<=e'.size:=by omega
   have abD:(o0+n'*e'.size)+e'.size<=arr.size:=by rw[cn,dQ]at tw;omega
   have aey:=sE (c:=cy C g' st' w) IK
   obtain⟨k1,k2,k3,hkx,r1,r2,r3⟩:=aey.mid off us.length
   have ajg:=C2
   rw[C1]at ajg
   have ti:=cQ.1 ajg
   have QF:∀c∈fh,c∉f2:=by intro c hc hm;have h1:=VC c hc;rw[AA c hm]at h1;cases rt<;>cases h1
   let w':=vt w b (eF arr ((o0+n'*e'.size)+off) us) T' fr
   have II:=mr jw
   have RE:∀c,c≠b->w'.heap[c]?=w.heap[c]?:=λc hc=>mY hc
   have aiA:∀u∈us,u.oneCell'=true:=by
    have Kf:bn (cy C g' st' w) (((arr.toList.drop (o0+n'*e'.size)).take e'.size).take off++us++((arr.toList.drop (o0+n'*e'.size)).take e'.size).drop (off+us.length))
     (db (cellsOf e' (.own none) x0) off vs) (k1++fh++k3):=by
     have e2:db (cellsOf e' (.own none) x0) off vs=(cellsOf e' (.own none) x0).take off++vs++(cellsOf e' (.own none) x0).drop (off+us.length):=by simp only[db];rw[hul]
     rw[e2]
     exact(r1.append XC).append r3
    obtain⟨q1,q2,hq,Yx,Yy⟩:=oz Kf hof;have ajo:(((arr.toList.drop (o0+n'*e'.size)).take e'.size).take off++us++((arr.toList.drop (o0+n'*e'.size)).take e'.size).drop (off+us.length)).length=e'.size:=by rw[Kf.length,I7 (by rw[kZ];omega),kZ]
    rw[bB (by omega)]at Yx;intro u hu;exact ez.np Yx u (by simp[hu])
   have VJ:=FX (P:=P) (w:=w) (hE T sh hT) b ((o0+n'*e'.size)+off) eh (by omega) aiA jw qV
   have dJ:(execOp a.eval o).run P w=.ok .skip w':=by simp only[execOp,ho,hv,Instr.storeAt,Instr.sureAddr,Sem.run_bind,Sem.run_pure,Result.andThen_ok];show((storeVar T ⟨b,ob+off,none⟩ (a.eval x)).run P w).andThen _=_;rw[hob,VJ];rfl
   have hle:(cy C g' st' w).Le ⟨g'.hw,g'.β,C.A,g'.hdr,lL st',st'.ep+1,gA st',w'⟩:=by
    refine⟨rfl,λ_ ht=>⟨ht,rfl⟩,λk c o u hA hu=>?_,Nat.le_succ _,λ_ hs=>⟨hs,rfl⟩,λhe=>absurd he (Nat.succ_ne_self _)⟩;have E4:c≠b:=by rintro rfl;exact na.LM (AA c (by rw[C1];simp)) k o hA
    rw[World.cell?_of_block (a:=⟨c,o,none⟩) (RE c E4)];exact hu
   have ajl:∀c∈fx,c≠b:=by rintro c hc rfl;exact ti.1 (by simp[hc])
   have Kf:bn ⟨g'.hw,g'.β,C.A,g'.hdr,lL st',st'.ep+1,gA st',w'⟩
    (((eF arr ((o0+n'*e'.size)+off) us).toList.drop (o0+n'*e'.size)).take e'.size) (db (cellsOf e' (.own none) x0) off vs) (k1++fh++k3):=by
    have e2:db (cellsOf e' (.own none) x0) off vs=(cellsOf e' (.own none) x0).take off++vs++(cellsOf e' (.own none) x0).drop (off+us.length):=by simp only[db];rw[hul]
    rw[e2,KF ahM abD]
    refine((r1.mono hle (λc hc=>⟨RE c (ajl c (by rw[hkx];simp[hc])),rfl⟩)).append
     (XC.mono hle (λc hc=>⟨RE c (λe=>QF c hc (by rw[C1,e];simp)),rfl⟩))).append
     (r3.mono hle (λc hc=>⟨RE c (ajl c (by rw[hkx];simp[hc])),rfl⟩))
   obtain⟨q1,q2,hq,Yx,Yy⟩:=oz Kf hof
   have ajo:(((eF arr ((o0+n'*e'.size)+off) us).toList.drop (o0+n'*e'.size)).take e'.size).length=e'.size:=by rw[Kf.length,I7 (by rw[kZ];omega),kZ]
   rw[cS (by omega)]at Yy
   have aev:q2=[]:=Yy
   subst aev
   rw[bB (by omega)]at Yx
   rw[bp]at hq
   have aes:=DT w' us off x' q1 ahM (yB II) (λc hc=>RE c (λe=>ti.1 (by rw[<-e];rcases az.1 hc with k|k<;>simp[k]))) Yx
   have E2:∀c∈b::(f1++q1++f3),c∈f2\/c∈fh:=by intro c hc;rw[<-hq]at hc;simp only[cv,az]at hc;rw[C1,hkx];simp only[cv,az];rcases hc with hc|((hc|((hc|hc)|hc))|hc)<;>simp[hc]
   have E3:(b::(f1++q1++f3)).Nodup:=by
    have hx2:=ti.2;rw[hkx]at hx2;rw[aN]at hx2;have m1:=aB.1 hx2;have m2:=aB.1 m1.2.1;have m2a:=m2.1;rw[aN]at m2a;have m3:=aB.1 m2a;have m4:=aB.1 m3.2.1;have inx:∀c,(c∈f1\/c∈k1\/c∈k3\/c∈f3)->c∈f2:=by intro c hc;rw[C1,hkx];simp only[cv,az];rcases hc with hc|hc|hc|hc<;>simp[hc]
    rw[<-hq];refine cQ.2 ⟨λhm=>?_,?_⟩;simp only[az]at hm;rcases hm with(hm|((hm|hm)|hm))|hm;exact ti.1 (by simp[hm]);exact ti.1 (by rw[hkx];simp[hm]);exact QF b hm (by rw[C1];simp);exact ti.1 (by rw[hkx];simp[hm]);exact ti.1 (by simp[hm]);rw[aN];refine aB.2 ⟨m1.1,aB.2 ⟨?_,m2.2.1,?_⟩,?_⟩;rw[aN];refine aB.2 ⟨m3.1,aB.2 ⟨Mz,m4.2.1,?_⟩,?_⟩;rintro c hc d hd rfl;exact QF c hc (inx c (by simp[hd]));rintro c hc d hd rfl;rcases az.1 hd with hd|hd;exact QF c hd (inx c (by simp[hc]));exact m3.2.2 c hc c (ba _ hd) rfl;rintro c hc d hd rfl;simp only[az]at hc;rcases hc with(hc|hc)|hc;exact m2.2.2 c (by simp[hc]) c hd rfl;exact QF c hc (inx c (by simp[hd]));exact m2.2.2 c (by simp[hc]) c hd rfl;rintro c hc d hd rfl;simp only[az]at hd;rcases hd with((hd|hd)|hd)|hd;exact m1.2.2 c hc c (by simp[hd]) rfl;exact QF c hd (inx c (by simp[hc]));exact m1.2.2 c hc c (by simp[hd]) rfl;exact m1.2.2 c hc c (by simp[hd]) rfl
   have aih:Fr (λc=>cY (g'.dK c)\/c∈f2) w w':=⟨rfl,rfl,rfl,by show _<=(vt _ _ _ _ _).heap.size;rw[lV];exact aR _,λc _ hc=>RE c (λe=>hc (.inr (by rw[C1,e];simp)))⟩
   obtain⟨g2,Ju⟩:=lG w' g'.hw (xs.set n' x') (b::(f1++q1++f3)) aes E3 (λc hc=>by rcases E2 c hc with k|k;exact⟨by show _<(vt _ _ _ _ _).heap.size;rw[lV];exact(na.fB c _ (AA c k)).1,.inl k⟩;exact⟨by show _<(vt _ _ _ _ _).heap.size;rw[lV];exact(na.fB c _ (VC c k)).1,.inr (by rw[VC c k];rfl)⟩) aih (λ_ _ _ _ _=>rfl)
   refine⟨undef,_,_,.inr ⟨rfl,dJ⟩,?_,hk⟩
   rw[hd]
   have aep:i.toNat=n':=by omega
   rw[aep]
   exact⟨g2,Ju⟩
  ·cases hk
 cases hk;cases hk;rename_i t' i' q e' xs gX;split at hk;rename_i hee;subst hee;split at hk;rename_i hc;obtain⟨rfl,rfl⟩:=hc;simp only at hk;cases E1:abG xs i' i with|none=>rw[E1]at hk;simp[aa]at hk|some x0=>obtain⟨rfl,aq5⟩:=abH E1;rw[E1]at hk;simp only[aa]at hk;split at hk;rename_i x' hof;exact QD hE hd ho hT hlen na (by rw[hv,hob,dM]) (by rw[Ka];exact hrt) uw gX hof hk;cases hk
 cases hk;cases hk;cases hk
theorem ZQ {E:Env}(hE:js P E.ty){o:Oper}{p x:Operand}(hd:o.dst=none)(ho:o.op=.store T p x)(h:nv C st a w){K:AS->au R}(hk:yy E T p x st K=some r):nb P C o a w K r:=by unfold yy at hk;split at hk;rename_i sh s off hT hp;split at hk;rename_i gg vs st' tF;split at hk;rename_i cs jE;split at hk;rename_i hlen;split at hk;rename_i gI;exact Q6 hE hd ho h hT hp tF jE hlen.1 hlen.2 gI hk;cases hk;cases hk;cases hk;cases hk;rename_i sh ep rt t e y i off hT hp;split at hk;rename_i gg vs st' tF;split at hk;rename_i hc;exact Q8 hE hd ho h hT hp tF hc.1 hc.2 hk;cases hk;cases hk;cases hk
end Go.Dn
