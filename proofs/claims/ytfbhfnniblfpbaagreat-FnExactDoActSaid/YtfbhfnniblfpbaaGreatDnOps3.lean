import Derived.Test.YtfbhfnniblfpbaaGreatDnOps2
/- Part 3: an element of an owned slice is written. -/
namespace Go.Dn
open Go.RowKit
variable {P:Program} {C:Ctx} {st:AS} {a:Act} {w:World} {R:Type} {r:R}
variable {arr:Array Value} {gg:Bool} {e:CT} {off:Nat} {rt:kq} {sh:Shape} {T:TypeId} {vs:ar AC} {us:ic}
theorem zV {o:Nat}(h:o+us.length<=arr.size)(j:Nat): (eC arr o us).toList[j]?=if o<=j/\j<o+us.length then us[j-o]? else arr.toList[j]?:=by
 rw[xh us arr o h];have hl:(arr.toList.take o).length=o:=by rw[bm];simp;omega
 by_cases h1:j<o;rw[mG,aN,bw (by omega),cU,aG h1];by_cases h2:j<o+us.length;rw[zip,aN,bq (by omega),hl,bw (by omega)];rw[mG,bq (by rw[au];omega),au,hl,bJ];congr 1;omega
theorem jh {l:ic}(p n j:Nat):((l.drop p).take n)[j]?=if j<n then l[p+j]? else none:=by rw[cU];split;rw[bJ];rfl
theorem IG {o0 size n i:Nat}(Qn:off+us.length<=size)(hn:o0+(n+1)*size<=arr.size)(hi:i≠n): ((eC arr (o0+n*size+off) us).toList.drop (o0+i*size)).take size=(arr.toList.drop (o0+i*size)).take size:=by
 have BZ:o0+n*size+size<=arr.size:=by rw[cn,dN]at hn;omega
 apply cL;intro j;rw[jh,jh];split;rename_i hj;rw[zV (by omega),aF];intro hc;rcases Nat.lt_or_gt_of_ne hi with h|h;have:(i+1)*size<=n*size:=bZ _ h;rw[cn,dN]at this;omega;have:(n+1)*size<=i*size:=bZ _ h;rw[cn,dN]at this;omega;rfl
theorem Kq {p size:Nat}(Qn:off+us.length<=size)(BZ:p+size<=arr.size): ((eC arr (p+off) us).toList.drop p).take size= ((arr.toList.drop p).take size).take off++us++((arr.toList.drop p).take size).drop (off+us.length):=by
 have hl:((arr.toList.drop p).take size).length=size:=by simp;omega
 have Aq:(((arr.toList.drop p).take size).take off).length=off:=by rw[bm,hl];omega
 apply cL;intro j;rw[jh];by_cases hj:j<size;rw[aG hj,zV (by omega)];by_cases h1:j<off;rw[mG,aN,bw (by omega),cU,aG h1,jh,aG hj];by_cases h2:j<off+us.length;rw[zip,aN,bq (by omega),Aq,bw (by omega)];congr 1;omega;rw[mG,bq (by rw[au];omega),au,Aq,bJ,jh,show off+us.length+(j-(off+us.length))=j by omega,aG hj];rw[aF hj,bH];simp only[au,Aq,bf,hl];omega
theorem ae6 {hw:Nat->Nat}{w:World}{v:Value}{xs:ar e.D}{Z3:dV}(h:eo hw w (.sl e) [v] xs Z3){n:Nat}{x:e.D}(hx:xs[n]?=some x): ∃b o0 cap arr T fr f1 fx f3,v=.slice (some ⟨b,o0,none⟩) xs.length cap/\w.heap[b]?=some (.cells arr T fr)/\qc arr fr/\o0+(n+1)*e.size<=arr.size/\ eo hw w e ((arr.toList.drop (o0+n*e.size)).take e.size) x fx/\Z3=b::(f1++fx++f3)/\ ∀(w':World)(us:ic)(off:Nat)(x':e.D)(fx':dV),off+us.length<=e.size->w'.heap[b]?=some (.cells (eC arr (o0+n*e.size+off) us) T fr)-> (∀b'∈f1++f3,w'.heap[b']?=w.heap[b']?)->eo hw w' e (((eC arr (o0+n*e.size+off) us).toList.drop (o0+n*e.size)).take e.size) x' fx'-> eo hw w' (.sl e) [v] (xs.set n x') (b::(f1++fx'++f3)):=by
 obtain⟨u,hu,h⟩:=h;simp at hu;subst hu;have JD:n<xs.length:=(aD.1 hx).1;rcases h with⟨⟨_,rfl⟩,rfl,rfl⟩|⟨b,o0,cap,arr,T,fr,fps,rfl,hb,qS,hs,hc,hh,rfl,hl,hr⟩;simp at hx;have No:fps[n]?=some fps[n]:=al (by omega);have Ig:=C3 No;have hm:o0+(n+1)*e.size<=arr.size:=by rw[hs];exact Nat.add_le_add_left (bZ _ (by omega)) _
 refine⟨b,o0,cap,arr,T,fr,(fps.take n).flatten,fps[n],(fps.drop (n+1)).flatten,rfl,hb,qS,hm,hr n x _ hx No,by rw[Ig.1],?_⟩;intro w' us off x' fx' Qn gH hk eR;refine⟨_,rfl,.inr ⟨b,o0,cap,eC arr (o0+n*e.size+off) us,T,fr,fps.set n fx',by simp,gH,λj hj=>qS j (by rwa[iC]at hj),by rw[iC];exact hs,by simpa using hc,by simpa using hh,by rw[Ig.2],by simp[hl],?_⟩⟩;intro i y f hy hf;by_cases uu:i=n;subst uu;rw[bk]at hy hf;simp only[bL,JD]at hy;simp only[bL]at hf;rw[zip]at hf;simp at hy hf;subst hy;subst hf;exact eR;rw[aO (cG uu)]at hy hf;rw[IG Qn hm uu];refine eo.mono (hr i y f hy hf) (λb' adW=>⟨hk b' ?_,rfl⟩);have Ov:i<fps.length:=(aD.1 hf).1;have hfi:fps[i]=f:=by rw[al Ov]at hf;simpa using hf
 rcases Nat.lt_or_gt_of_ne uu with gV|hgt;refine bg _ (List.mem_flatten.2 ⟨f,?_,adW⟩);rw[List.mem_take_iff_getElem];exact⟨i,by omega,hfi⟩;refine ba _ (List.mem_flatten.2 ⟨f,?_,adW⟩);rw[List.mem_drop_iff_getElem];exact⟨i-(n+1),by omega,by rw[<-hfi];congr 1;omega⟩
theorem OA {α:Type}{xs:ar α}{i:Int}{x:α}(h:idx xs i=some x):∃n:Nat,i=n/\xs[n]?=some x:=by cases i with|ofNat n=>exact⟨n,rfl,h⟩|negSucc n=>simp[idx]at h
theorem Qk {E:Env}(hE:jm P E.ty){o:Oper}{p x:Operand}(hd:o.dst=none)(ho:o.op=.store T p x){K:AS->aw R}{t':Nat}{i:Int}{st':AS}{g':Gh}(hT:iT E.ty T=some sh)(hlen:vs.length=sh.ct.size)(mY:dw C g' st' a w [(a.eval x,.val gg vs)]){b o0 len cap n:Nat}{q:aw Nat}{xs:ar e.D}{x':e.D}(hv:a.eval p=.pointer (some ⟨b,o0+n*e.size,none⟩))(hrt:g'.hdr t'=.slice (some ⟨b,o0,none⟩) len cap)(uu:i=n)(gX:st'.eM rt=some (.sl (.fe (some t') i q) e xs))(hof:iQ e vs=some (x',[]))(hk:K {st'.eU rt (.sl (.own (some t')) e (xs.set i.toNat x'))with ep:=st'.ep+1}=some r):mZ P C o a w K r:=by
 obtain⟨v0,f2,dC,CQ,Aq,lD⟩:=mY.TP rt (by simp) gX;obtain⟨_,⟨k,hik,eR⟩,ajg⟩:=dC;have hkn:k=n:=by omega
 subst hkn;obtain⟨b2,o2,UJ,arr,T',fr,fps,Mg,jr,qS,hs,hc,hh,HM,hl,hkl,hfk,hr⟩:=eR;have jr:w.heap[b2]?=some (.cells arr T' fr):=jr;have h1:v0=g'.hdr t':=(ajg t' rfl).2;rw[hrt,Mg]at h1;simp only[Value.slice.injEq,aZ,Addr.mk.injEq]at h1;obtain⟨⟨rfl,rfl,_⟩,_⟩:=h1;obtain⟨fh,⟨us,ee,Xe⟩,Mf,Vg⟩:=mY.hands 0 _ _ rfl;obtain⟨q1,q2,hq,X9,Ya⟩:=ox Xe hof;have Vd:us.drop e.size=[]:=by cases hd0:us.drop e.size with|nil=>rfl|cons _ _=>rw[hd0]at Ya;exact Ya.elim
 rw[Vd]at Ya;have aeg:q2=[]:=Ya;subst aeg;rw[bp]at hq;subst hq;have Qq:us.take e.size=us:=by have:=cp e.size us;rw[Vd,bp]at this;exact this
 rw[Qq]at X9;have hul:us.length=e.size:=eo.length X9;have tu:o2+(k+1)*e.size<=arr.size:=by rw[hs];exact Nat.add_le_add_left (bZ _ (by omega)) _
 have abm:o2+k*e.size+e.size<=arr.size:=by rw[cn,dN]at tu;omega
 let w':=vo w b2 (eC arr (o2+k*e.size+0) us) T' fr;have Ir:=mn jr;have Ri:∀c,c≠b2->w'.heap[c]?=w.heap[c]?:=λc hc=>mW hc;have aqE:=Xe.length;have Vn:=FJ (P:=P) (w:=w) (hE T sh hT) b2 (o2+k*e.size+0) ee (by omega) (λu hu=>eo.nm X9 u hu) jr qS;have dI:(execOp a.eval o).run P w=.ok .skip w':=by simp only[execOp,ho,hv,Instr.storeAt,Instr.sureAddr,Sem.run_bind,Sem.run_pure,Result.andThen_ok];show((storeVar T ⟨b2,o2+k*e.size+0,none⟩ (a.eval x)).run P w).andThen _=_;rw[Vn];rfl
 have Ig:=C3 hfk;have tc:b2∉fps.flatten:=by rw[HM]at CQ;exact(cP.1 CQ).1
 have hnf:fps.flatten.Nodup:=by rw[HM]at CQ;exact(cP.1 CQ).2
 have Qm:∀c∈fh,c∉f2:=by intro c hc hm;have h1:=Vg c hc;rw[Aq c hm]at h1;cases rt<;>cases h1
 have aiW:∀c∈fh,c≠b2:=λc hc e=>Qm c hc (by rw[HM,e];simp);have Me:∀c,c∈(fps.set k fh).flatten↔c∈fps.flatten\/c∈fh:=by intro c;rw[Ig.2,Ig.1];simp only[az,List.not_mem_nil,or_false];constructor;rintro((h|h)|h)<;>simp[h];rintro((h|h)|h)<;>simp[h]
 have aed:eo g'.hw w' (.sl e) [v0] (xs.set k x') (b2::(fps.set k fh).flatten):=by
  refine⟨v0,rfl,.inr ⟨b2,o2,UJ,eC arr (o2+k*e.size+0) us,T',fr,fps.set k fh,by rw[Mg];simp,yr Ir,λj hj=>qS j (by rwa[iC]at hj),by rw[iC];exact hs,by simpa using hc,by rw[aH];exact hh,rfl,by simp[hl],?_⟩⟩;intro j y f hy hf;by_cases hjk:j=k;subst hjk;rw[bk]at hy hf;simp only[bL,hkl]at hy;simp only[bL]at hf;rw[zip]at hf;simp at hy hf;subst hy;subst hf;rw[Kq (by omega) abm];have e1:((arr.toList.drop (o2+j*e.size)).take e.size).take 0++us++((arr.toList.drop (o2+j*e.size)).take e.size).drop (0+us.length)=us:=by rw[List.take_zero,bR,cQ (by simp;omega),bp]
  rw[e1];exact eo.mono X9 (λc hc=>⟨Ri c (aiW c hc),rfl⟩);rw[aO (cG hjk)]at hy hf;rw[IG (by omega) tu hjk];refine eo.mono (hr j y f hjk hy hf) (λc hc=>⟨Ri c (λe0=>tc ?_),rfl⟩);rw[<-e0];exact List.mem_flatten.2 ⟨f,cR hf,hc⟩
 have aqf:(b2::(fps.set k fh).flatten).Nodup:=by
  refine cP.2 ⟨λhm=>?_,?_⟩;rcases(Me b2).1 hm with h|h;exact tc h;exact aiW b2 h rfl;rw[Ig.2];rw[Ig.1,bp]at hnf;have m:=aB.1 hnf;have ahX:∀c,c∈(fps.take k).flatten\/c∈(fps.drop (k+1)).flatten->c∈f2:=by intro c hc;rw[HM,Ig.1];rcases hc with hc|hc<;>simp[hc]
  refine aB.2 ⟨aB.2 ⟨m.1,Mf,?_⟩,m.2.1,?_⟩;rintro c hc d hd rfl;exact Qm c hd (ahX c (.inl hc));rintro c hc d hd rfl;rcases az.1 hc with hc|hc;exact m.2.2 c hc c hd rfl;exact Qm c hc (ahX c (.inr hd))
 have ap8:i.toNat=k:=by omega
 rw[ap8]at hk
 obtain⟨g2,Jf⟩:=lD w' g'.hw (.sl (.own (some t')) e (xs.set k x')) (b2::(fps.set k fh).flatten) (λc' hle MT BU=>⟨by rw[MT,BU];exact aed,λt ht=>by simp at ht;subst ht;have h0:=ajg t' rfl;exact⟨(hle.hdr t' h0.1).1,by rw[(hle.hdr t' h0.1).2];exact h0.2⟩⟩) aqf (λc hc=>by
  show _<(vo _ _ _ _ _).heap.size/\_
  rw[lS]
  rcases cv.1 hc with rfl|hc
  ·exact⟨Ir,.inl (by rw[HM];simp)⟩
  ·rcases(Me c).1 hc with h|h
   ·have:c∈f2:=by rw[HM];simp[h]
    exact⟨(mY.fA c _ (Aq c this)).1,.inl this⟩
   ·exact⟨(mY.fA c _ (Vg c h)).1,.inr (by rw[Vg c h];rfl)⟩)
  ⟨rfl,rfl,rfl,by show _<=(vo _ _ _ _ _).heap.size;rw[lS];exact aU _,λc _ hc=>Ri c (λe=>hc (.inr (by rw[HM,e];simp)))⟩ (λ_ _ _ _ _=>rfl)
 refine⟨undef,_,_,.inr ⟨rfl,dI⟩,?_,hk⟩;rw[hd];exact⟨g2,Jf⟩
theorem QP {E:Env}(hE:jm P E.ty){o:Oper}{p x:Operand}(hd:o.dst=none)(ho:o.op=.store T p x)(h:nt C st a w){K:AS->aw R}{ep t:Nat}{y:e.D}{i:Int}{st':AS}(hT:iT E.ty T=some sh)(hp:st.rd p=.val false [.C1 (.loc ep (some (rt,t))) e y i off])(tD:st.take x=(.val gg vs,st'))(hlen:vs.length=sh.ct.size)(gF:off+sh.ct.size<=e.size)(hk:st'.pF rt t e i off vs K=some r):mZ P C o a w K r:=by
 obtain⟨g,hg⟩:=h;have vO:=hg.rd p;rw[hp]at vO;obtain⟨_,b,ob,hv,_,_,Iv⟩:=dQ vO;obtain⟨_,n,o0,len,cap,uu,hrt,JD,hob⟩:=Iv rt t rfl;obtain⟨g',⟨Ji,BX,JW,_⟩,mY⟩:=hg.afN x;rw[tD]at mY;unfold AS.pF at hk;split at hk;rename_i t' e' xs gX;split at hk;rename_i hee;subst hee;split at hk
 ·rename_i htt
  subst htt
  simp only at hk
  cases EP:idx xs i with
  |none=>rw[EP]at hk;simp[aa]at hk
  |some x0=>
  rw[EP]at hk
  simp only[aa]at hk
  split at hk
  ·rename_i x' hof
   obtain⟨n',BZ,Uq⟩:=OA EP
   have Jg:n'=n:=by omega
   subst Jg
   obtain⟨v0,f2,Rk,eR,CQ,Aq,lD⟩:=mY.TQ rt gX
   have Rk: .slice (some ⟨b,o0,none⟩) len cap=v0:=by have h1:=Rk t' rfl;have h2:g.hdr t'=.slice (some ⟨b,o0,none⟩) len cap:=hrt;rw[h1,JW,h2]
   obtain⟨b2,o2,UJ,arr,T',fr,f1,fx,f3,Mg,jr,qS,tu,It,CP,DG⟩:=ae6 eR Uq
   rw[<-Rk]at Mg
   simp only[Value.slice.injEq,aZ,Addr.mk.injEq]at Mg
   obtain⟨⟨rfl,rfl,_⟩,_⟩:=Mg
   obtain⟨fh,⟨us,ee,Xe⟩,Mf,Vg⟩:=mY.hands 0 _ _ rfl
   have hul:=Xe.length
   have aht:off+us.length<=e'.size:=by omega
   have abm:(o0+n'*e'.size)+e'.size<=arr.size:=by rw[cn,dN]at tu;omega
   have aej:=sA (c:=cy C g' st' w) It
   obtain⟨k1,k2,k3,hkx,r1,r2,r3⟩:=aej.mid off us.length
   have aiV:=CQ
   rw[CP]at aiV
   have tc:=cP.1 aiV
   have Qm:∀c∈fh,c∉f2:=by intro c hc hm;have h1:=Vg c hc;rw[Aq c hm]at h1;cases rt<;>cases h1
   let w':=vo w b (eC arr ((o0+n'*e'.size)+off) us) T' fr
   have Ir:=mn jr
   have Ri:∀c,c≠b->w'.heap[c]?=w.heap[c]?:=λc hc=>mW hc
   have aie:∀u∈us,u.oneCell'=true:=by
    have J1:bn (cy C g' st' w) (((arr.toList.drop (o0+n'*e'.size)).take e'.size).take off++us++((arr.toList.drop (o0+n'*e'.size)).take e'.size).drop (off+us.length))
     (da (cellsOf e' (.own none) x0) off vs) (k1++fh++k3):=by
     have e2:da (cellsOf e' (.own none) x0) off vs=(cellsOf e' (.own none) x0).take off++vs++(cellsOf e' (.own none) x0).drop (off+us.length):=by simp only[da];rw[hul]
     rw[e2]
     exact(r1.append Xe).append r3
    obtain⟨q1,q2,hq,X9,Ya⟩:=ox J1 hof;have ai3:(((arr.toList.drop (o0+n'*e'.size)).take e'.size).take off++us++((arr.toList.drop (o0+n'*e'.size)).take e'.size).drop (off+us.length)).length=e'.size:=by rw[J1.length,IQ (by rw[kX];omega),kX]
    rw[bB (by omega)]at X9;intro u hu;exact eo.nm X9 u (by simp[hu])
   have Vn:=FJ (P:=P) (w:=w) (hE T sh hT) b ((o0+n'*e'.size)+off) ee (by omega) aie jr qS
   have dI:(execOp a.eval o).run P w=.ok .skip w':=by simp only[execOp,ho,hv,Instr.storeAt,Instr.sureAddr,Sem.run_bind,Sem.run_pure,Result.andThen_ok];show((storeVar T ⟨b,ob+off,none⟩ (a.eval x)).run P w).andThen _=_;rw[hob,Vn];rfl
   have hle:(cy C g' st' w).Le ⟨g'.hw,g'.β,C.A,g'.hdr,lI st',st'.ep+1,gx st',w'⟩:=by
    refine⟨rfl,λ_ ht=>⟨ht,rfl⟩,λk c o u hA hu=>?_,Nat.le_succ _,λ_ hs=>⟨hs,rfl⟩,λhe=>absurd he (Nat.succ_ne_self _)⟩;have ET:c≠b:=by rintro rfl;exact mY.Lr (Aq c (by rw[CP];simp)) k o hA
    rw[World.cell?_of_block (a:=⟨c,o,none⟩) (Ri c ET)];exact hu
   have ai0:∀c∈fx,c≠b:=by rintro c hc rfl;exact tc.1 (by simp[hc])
   have J1:bn ⟨g'.hw,g'.β,C.A,g'.hdr,lI st',st'.ep+1,gx st',w'⟩
    (((eC arr ((o0+n'*e'.size)+off) us).toList.drop (o0+n'*e'.size)).take e'.size) (da (cellsOf e' (.own none) x0) off vs) (k1++fh++k3):=by
    have e2:da (cellsOf e' (.own none) x0) off vs=(cellsOf e' (.own none) x0).take off++vs++(cellsOf e' (.own none) x0).drop (off+us.length):=by simp only[da];rw[hul]
    rw[e2,Kq aht abm]
    refine((r1.mono hle (λc hc=>⟨Ri c (ai0 c (by rw[hkx];simp[hc])),rfl⟩)).append
     (Xe.mono hle (λc hc=>⟨Ri c (λe=>Qm c hc (by rw[CP,e];simp)),rfl⟩))).append
     (r3.mono hle (λc hc=>⟨Ri c (ai0 c (by rw[hkx];simp[hc])),rfl⟩))
   obtain⟨q1,q2,hq,X9,Ya⟩:=ox J1 hof
   have ai3:(((eC arr ((o0+n'*e'.size)+off) us).toList.drop (o0+n'*e'.size)).take e'.size).length=e'.size:=by rw[J1.length,IQ (by rw[kX];omega),kX]
   rw[cQ (by omega)]at Ya
   have aeg:q2=[]:=Ya
   subst aeg
   rw[bB (by omega)]at X9
   rw[bp]at hq
   have aed:=DG w' us off x' q1 aht (yr Ir) (λc hc=>Ri c (λe=>tc.1 (by rw[<-e];rcases az.1 hc with k|k<;>simp[k]))) X9
   have ER:∀c∈b::(f1++q1++f3),c∈f2\/c∈fh:=by intro c hc;rw[<-hq]at hc;simp only[cv,az]at hc;rw[CP,hkx];simp only[cv,az];rcases hc with hc|((hc|((hc|hc)|hc))|hc)<;>simp[hc]
   have ES:(b::(f1++q1++f3)).Nodup:=by
    have hx2:=tc.2;rw[hkx]at hx2;rw[aN]at hx2;have m1:=aB.1 hx2;have m2:=aB.1 m1.2.1;have m2a:=m2.1;rw[aN]at m2a;have m3:=aB.1 m2a;have m4:=aB.1 m3.2.1;have inx:∀c,(c∈f1\/c∈k1\/c∈k3\/c∈f3)->c∈f2:=by intro c hc;rw[CP,hkx];simp only[cv,az];rcases hc with hc|hc|hc|hc<;>simp[hc]
    rw[<-hq];refine cP.2 ⟨λhm=>?_,?_⟩;simp only[az]at hm;rcases hm with(hm|((hm|hm)|hm))|hm;exact tc.1 (by simp[hm]);exact tc.1 (by rw[hkx];simp[hm]);exact Qm b hm (by rw[CP];simp);exact tc.1 (by rw[hkx];simp[hm]);exact tc.1 (by simp[hm]);rw[aN];refine aB.2 ⟨m1.1,aB.2 ⟨?_,m2.2.1,?_⟩,?_⟩;rw[aN];refine aB.2 ⟨m3.1,aB.2 ⟨Mf,m4.2.1,?_⟩,?_⟩;rintro c hc d hd rfl;exact Qm c hc (inx c (by simp[hd]));rintro c hc d hd rfl;rcases az.1 hd with hd|hd;exact Qm c hd (inx c (by simp[hc]));exact m3.2.2 c hc c (ba _ hd) rfl;rintro c hc d hd rfl;simp only[az]at hc;rcases hc with(hc|hc)|hc;exact m2.2.2 c (by simp[hc]) c hd rfl;exact Qm c hc (inx c (by simp[hd]));exact m2.2.2 c (by simp[hc]) c hd rfl;rintro c hc d hd rfl;simp only[az]at hd;rcases hd with((hd|hd)|hd)|hd;exact m1.2.2 c hc c (by simp[hd]) rfl;exact Qm c hd (inx c (by simp[hc]));exact m1.2.2 c hc c (by simp[hd]) rfl;exact m1.2.2 c hc c (by simp[hd]) rfl
   have ahV:Fr (λc=>cX (g'.dJ c)\/c∈f2) w w':=⟨rfl,rfl,rfl,by show _<=(vo _ _ _ _ _).heap.size;rw[lS];exact aU _,λc _ hc=>Ri c (λe=>hc (.inr (by rw[CP,e];simp)))⟩
   obtain⟨g2,Jf⟩:=lD w' g'.hw (xs.set n' x') (b::(f1++q1++f3)) aed ES (λc hc=>by rcases ER c hc with k|k;exact⟨by show _<(vo _ _ _ _ _).heap.size;rw[lS];exact(mY.fA c _ (Aq c k)).1,.inl k⟩;exact⟨by show _<(vo _ _ _ _ _).heap.size;rw[lS];exact(mY.fA c _ (Vg c k)).1,.inr (by rw[Vg c k];rfl)⟩) ahV (λ_ _ _ _ _=>rfl)
   refine⟨undef,_,_,.inr ⟨rfl,dI⟩,?_,hk⟩
   rw[hd]
   have aea:i.toNat=n':=by omega
   rw[aea]
   exact⟨g2,Jf⟩
  ·cases hk
 cases hk;cases hk;rename_i t' i' q e' xs gX;split at hk;rename_i hee;subst hee;split at hk;rename_i hc;obtain⟨rfl,rfl⟩:=hc;simp only at hk;cases EP:abp xs i' i with|none=>rw[EP]at hk;simp[aa]at hk|some x0=>obtain⟨rfl,aqJ⟩:=abq EP;rw[EP]at hk;simp only[aa]at hk;split at hk;rename_i x' hof;exact Qk hE hd ho hT hlen mY (by rw[hv,hob,dL]) (by rw[JW];exact hrt) uu gX hof hk;cases hk
 cases hk;cases hk;cases hk
theorem Zv {E:Env}(hE:jm P E.ty){o:Oper}{p x:Operand}(hd:o.dst=none)(ho:o.op=.store T p x)(h:nt C st a w){K:AS->aw R}(hk:yo E T p x st K=some r):mZ P C o a w K r:=by unfold yo at hk;split at hk;rename_i sh s off hT hp;split at hk;rename_i gg vs st' tD;split at hk;rename_i cs jA;split at hk;rename_i hlen;split at hk;rename_i gF;exact QN hE hd ho h hT hp tD jA hlen.1 hlen.2 gF hk;cases hk;cases hk;cases hk;cases hk;rename_i sh ep rt t e y i off hT hp;split at hk;rename_i gg vs st' tD;split at hk;rename_i hc;exact QP hE hd ho h hT hp tD hc.1 hc.2 hk;cases hk;cases hk;cases hk
end Go.Dn
