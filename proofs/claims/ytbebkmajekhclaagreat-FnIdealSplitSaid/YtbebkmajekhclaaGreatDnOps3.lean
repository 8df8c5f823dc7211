import Derived.Test.YtbebkmajekhclaaGreatDnOps2
/- Part 3: an element of an owned slice is written. -/
namespace Go.Dn
open Go.RowKit
variable {P:Program} {C:Ctx} {st:AS} {a:Act} {w:World} {R:Type} {r:R}
variable {arr:Array Value} {gg:Bool} {e:CT} {i:Int} {off:Nat} {rt:lx} {sh:Shape} {T:TypeId} {vs:aw AC} {us:jf}
theorem AX {o:Nat}(h:o+us.length<=arr.size)(j:Nat): (fw arr o us).toList[j]?=if o<=j/\j<o+us.length then us[j-o]? else arr.toList[j]?:=by
 rw[xR us arr o h];have hl:(arr.toList.take o).length=o:=by rw[aP];simp;omega
 by_cases h1:j<o;rw[nI,bj,bK (by omega),dY,aI h1];by_cases h2:j<o+us.length;rw[zip,bj,bA (by omega),hl,bK (by omega)];rw[nI,bA (by rw[ai];omega),ai,hl,bS];congr 1;omega
theorem jS {l:jf}(p n j:Nat):((l.drop p).take n)[j]?=if j<n then l[p+j]? else none:=by rw[dY];split;rw[bS];rfl
theorem JF {o0 size n i:Nat}(Tg:off+us.length<=size)(hn:o0+(n+1)*size<=arr.size)(hi:i≠n): ((fw arr (o0+n*size+off) us).toList.drop (o0+i*size)).take size=(arr.toList.drop (o0+i*size)).take size:=by
 have Fb:o0+n*size+size<=arr.size:=by rw[dc,fJ]at hn;omega
 apply dj;intro j;rw[jS,jS];split;rename_i hj;rw[AX (by omega),aK];intro hc;rcases Nat.lt_or_gt_of_ne hi with h|h;have:(i+1)*size<=n*size:=de _ h;rw[dc,fJ]at this;omega;have:(n+1)*size<=i*size:=de _ h;rw[dc,fJ]at this;omega;rfl
theorem LL {p size:Nat}(Tg:off+us.length<=size)(Fb:p+size<=arr.size): ((fw arr (p+off) us).toList.drop p).take size= ((arr.toList.drop p).take size).take off++us++((arr.toList.drop p).take size).drop (off+us.length):=by
 have hl:((arr.toList.drop p).take size).length=size:=by simp;omega
 have Cz:(((arr.toList.drop p).take size).take off).length=off:=by rw[aP,hl];omega
 apply dj;intro j;rw[jS];by_cases hj:j<size;rw[aI hj,AX (by omega)];by_cases h1:j<off;rw[nI,bj,bK (by omega),dY,aI h1,jS,aI hj];by_cases h2:j<off+us.length;rw[zip,bj,bA (by omega),Cz,bK (by omega)];congr 1;omega;rw[nI,bA (by rw[ai];omega),ai,Cz,bS,jS,show off+us.length+(j-(off+us.length))=j by omega,aI hj];rw[aK hj,bJ];simp only[ai,Cz,aS,hl];omega
theorem alJ {hw:Nat->Nat}{w:World}{v:Value}{xs:aw e.D}{fp0:fA}(h:fR hw w (.sl e) [v] xs fp0){n:Nat}{x:e.D}(hx:xs[n]?=some x): ∃b o0 cap arr T fr f1 fx f3,v=.slice (some ⟨b,o0,none⟩) xs.length cap/\w.heap[b]?=some (.cells arr T fr)/\rm arr fr/\o0+(n+1)*e.size<=arr.size/\ fR hw w e ((arr.toList.drop (o0+n*e.size)).take e.size) x fx/\fp0=b::(f1++fx++f3)/\ ∀(w':World)(us:jf)(off:Nat)(x':e.D)(fx':fA),off+us.length<=e.size->w'.heap[b]?=some (.cells (fw arr (o0+n*e.size+off) us) T fr)-> (∀b'∈f1++f3,w'.heap[b']?=w.heap[b']?)->fR hw w' e (((fw arr (o0+n*e.size+off) us).toList.drop (o0+n*e.size)).take e.size) x' fx'-> fR hw w' (.sl e) [v] (xs.set n x') (b::(f1++fx'++f3)):=by
 obtain⟨u,hu,h⟩:=h;simp at hu;subst hu;have N3:n<xs.length:=(aC.1 hx).1;rcases h with⟨⟨_,rfl⟩,rfl,rfl⟩|⟨b,o0,cap,arr,T,fr,fps,rfl,hb,uO,hs,hc,hh,rfl,hl,hr⟩;simp at hx;have Td:fps[n]?=some fps[n]:=ak (by omega);have KN:=Hv Td;have hm:o0+(n+1)*e.size<=arr.size:=by rw[hs];exact Nat.add_le_add_left (de _ (by omega)) _
 refine⟨b,o0,cap,arr,T,fr,(fps.take n).flatten,fps[n],(fps.drop (n+1)).flatten,rfl,hb,uO,hm,hr n x _ hx Td,by rw[KN.1],?_⟩;intro w' us off x' fx' Tg iz hk iG;refine⟨_,rfl,.inr ⟨b,o0,cap,fw arr (o0+n*e.size+off) us,T,fr,fps.set n fx',by simp,iz,λj hj=>uO j (by rwa[jb]at hj),by rw[jb];exact hs,by simpa using hc,by simpa using hh,by rw[KN.2],by simp[hl],?_⟩⟩;intro i y f hy hf;by_cases yK:i=n;subst yK;rw[bO]at hy hf;simp only[cz,N3]at hy;simp only[cz]at hf;rw[zip]at hf;simp at hy hf;subst hy;subst hf;exact iG;rw[aR (df yK)]at hy hf;rw[JF Tg hm yK];refine fR.mono (hr i y f hy hf) (λb' asn=>⟨hk b' ?_,rfl⟩);have Py:i<fps.length:=(aC.1 hf).1;have hfi:fps[i]=f:=by rw[ak Py]at hf;simpa using hf
 rcases Nat.lt_or_gt_of_ne yK with gr|hgt;refine bP _ (List.mem_flatten.2 ⟨f,?_,asn⟩);rw[List.mem_take_iff_getElem];exact⟨i,by omega,hfi⟩;refine bD _ (List.mem_flatten.2 ⟨f,?_,asn⟩);rw[List.mem_drop_iff_getElem];exact⟨i-(n+1),by omega,by rw[<-hfi];congr 1;omega⟩
theorem ZA {α:Type}{xs:aw α}{x:α}(h:idx xs i=some x):∃n:Nat,i=n/\xs[n]?=some x:=by cases i with|ofNat n=>exact⟨n,rfl,h⟩|negSucc n=>simp[idx]at h
theorem S7 {E:Env}(hE:ka P E.ty){o:Oper}{p x:Operand}(hd:o.dst=none)(ho:o.op=.store T p x){K:AS->az R}{t':Nat}{cp:AS}{g':Gh}(hT:jK E.ty T=some sh)(hlen:vs.length=sh.ct.size)(pw:eE C g' cp a w [(a.eval x,.val gg vs)]){b o0 len cap n:Nat}{q:az Nat}{xs:aw e.D}{x':e.D}(hv:a.eval p=.pointer (some ⟨b,o0+n*e.size,none⟩))(hrt:g'.hdr t'=.slice (some ⟨b,o0,none⟩) len cap)(yK:i=n)(iL:cp.fL rt=some (.sl (.fS (some t') i q) e xs))(hof:mc e vs=some (x',[]))(hk:K {cp.fP rt (.sl (.own (some t')) e (xs.set i.toNat x'))with ep:=cp.ep+1}=some r):nG P C o a w K r:=by
 obtain⟨v0,f2,fO,Fc,Cz,pB⟩:=pw.Xu rt (by simp) iL;obtain⟨_,⟨k,WL,iG⟩,asT⟩:=fO;have hkn:k=n:=by omega
 subst hkn;obtain⟨b2,o2,abZ,arr,T',fr,fps,Rb,lf,uO,hs,hc,hh,CV,hl,SQ,hfk,hr⟩:=iG;have lf:w.heap[b2]?=some (.cells arr T' fr):=lf;have h1:v0=g'.hdr t':=(asT t' rfl).2;rw[hrt,Rb]at h1;simp only[Value.slice.injEq,bq,Addr.mk.injEq]at h1;obtain⟨⟨rfl,rfl,_⟩,_⟩:=h1;obtain⟨fh,⟨us,fU,hrh⟩,SR,Zs⟩:=pw.hands 0 _ _ rfl;obtain⟨q1,q2,hq,hq1,hq2⟩:=AU hrh hof;have Zn:us.drop e.size=[]:=by cases hd0:us.drop e.size with|nil=>rfl|cons _ _=>rw[hd0]at hq2;exact hq2.elim
 rw[Zn]at hq2;have aqB:q2=[]:=hq2;subst aqB;rw[bR]at hq;subst hq;have hus:us.take e.size=us:=by have:=cW e.size us;rw[Zn,bR]at this;exact this
 rw[hus]at hq1;have hul:us.length=e.size:=fR.length hq1;have uU:o2+(k+1)*e.size<=arr.size:=by rw[hs];exact Nat.add_le_add_left (de _ (by omega)) _
 have ag9:o2+k*e.size+e.size<=arr.size:=by rw[dc,fJ]at uU;omega
 let w':=wQ w b2 (fw arr (o2+k*e.size+0) us) T' fr;have IG:=mQ lf;have Zq:∀c,c≠b2->w'.heap[c]?=w.heap[c]?:=λc hc=>nA hc;have ay4:=hrh.length;have Zx:=GB (P:=P) (w:=w) (hE T sh hT) b2 (o2+k*e.size+0) fU (by omega) (λu hu=>fR.nS hq1 u hu) lf uO;have fg:(execOp a.eval o).run P w=.ok .skip w':=by simp only[execOp,ho,hv,Instr.storeAt,Instr.sureAddr,Sem.run_bind,Sem.run_pure,Result.andThen_ok];show((storeVar T ⟨b2,o2+k*e.size+0,none⟩ (a.eval x)).run P w).andThen _=_;rw[Zx];rfl
 have KN:=Hv hfk;have yL:b2∉fps.flatten:=by rw[CV]at Fc;exact(dC.1 Fc).1
 have hnf:fps.flatten.Nodup:=by rw[CV]at Fc;exact(dC.1 Fc).2
 have Tc:∀c∈fh,c∉f2:=by intro c hc hm;have h1:=Zs c hc;rw[Cz c hm]at h1;cases rt<;>cases h1
 have asw:∀c∈fh,c≠b2:=λc hc e=>Tc c hc (by rw[CV,e];simp);have ao9:∀c,c∈(fps.set k fh).flatten↔c∈fps.flatten\/c∈fh:=by intro c;rw[KN.2,KN.1];simp only[aA,List.not_mem_nil,or_false];constructor;rintro((h|h)|h)<;>simp[h];rintro((h|h)|h)<;>simp[h]
 have akV:fR g'.hw w' (.sl e) [v0] (xs.set k x') (b2::(fps.set k fh).flatten):=by
  refine⟨v0,rfl,.inr ⟨b2,o2,abZ,fw arr (o2+k*e.size+0) us,T',fr,fps.set k fh,by rw[Rb];simp,zE IG,λj hj=>uO j (by rwa[jb]at hj),by rw[jb];exact hs,by simpa using hc,by rw[ay];exact hh,rfl,by simp[hl],?_⟩⟩;intro j y f hy hf;by_cases hjk:j=k;subst hjk;rw[bO]at hy hf;simp only[cz,SQ]at hy;simp only[cz]at hf;rw[zip]at hf;simp at hy hf;subst hy;subst hf;rw[LL (by omega) ag9];have e1:((arr.toList.drop (o2+j*e.size)).take e.size).take 0++us++((arr.toList.drop (o2+j*e.size)).take e.size).drop (0+us.length)=us:=by rw[List.take_zero,bz,dP (by simp;omega),bR]
  rw[e1];exact fR.mono hq1 (λc hc=>⟨Zq c (asw c hc),rfl⟩);rw[aR (df hjk)]at hy hf;rw[JF (by omega) uU hjk];refine fR.mono (hr j y f hjk hy hf) (λc hc=>⟨Zq c (λe0=>yL ?_),rfl⟩);rw[<-e0];exact List.mem_flatten.2 ⟨f,aU hf,hc⟩
 have ayt:(b2::(fps.set k fh).flatten).Nodup:=by
  refine dC.2 ⟨λhm=>?_,?_⟩;rcases(ao9 b2).1 hm with h|h;exact yL h;exact asw b2 h rfl;rw[KN.2];rw[KN.1,bR]at hnf;have m:=aQ.1 hnf;have asy:∀c,c∈(fps.take k).flatten\/c∈(fps.drop (k+1)).flatten->c∈f2:=by intro c hc;rw[CV,KN.1];rcases hc with hc|hc<;>simp[hc]
  refine aQ.2 ⟨aQ.2 ⟨m.1,SR,?_⟩,m.2.1,?_⟩;rintro c hc d hd rfl;exact Tc c hd (asy c (.inl hc));rintro c hc d hd rfl;rcases aA.1 hc with hc|hc;exact m.2.2 c hc c hd rfl;exact Tc c hc (asy c (.inr hd))
 have ayk:i.toNat=k:=by omega
 rw[ayk]at hk
 obtain⟨g2,Kn⟩:=pB w' g'.hw (.sl (.own (some t')) e (xs.set k x')) (b2::(fps.set k fh).flatten) (λc' hle XZ Je=>⟨by rw[XZ,Je];exact akV,λt ht=>by simp at ht;subst ht;have h0:=asT t' rfl;exact⟨(hle.hdr t' h0.1).1,by rw[(hle.hdr t' h0.1).2];exact h0.2⟩⟩) ayt (λc hc=>by
  show _<(wQ _ _ _ _ _).heap.size/\_
  rw[my]
  rcases bZ.1 hc with rfl|hc
  ·exact⟨IG,.inl (by rw[CV];simp)⟩
  ·rcases(ao9 c).1 hc with h|h
   ·have:c∈f2:=by rw[CV];simp[h]
    exact⟨(pw.gN c _ (Cz c this)).1,.inl this⟩
   ·exact⟨(pw.gN c _ (Zs c h)).1,.inr (by rw[Zs c h];rfl)⟩)
  ⟨rfl,rfl,rfl,by show _<=(wQ _ _ _ _ _).heap.size;rw[my];exact bt _,λc _ hc=>Zq c (λe=>hc (.inr (by rw[CV,e];simp)))⟩ (λ_ _ _ _ _=>rfl)
 refine⟨undef,_,_,.inr ⟨rfl,fg⟩,?_,hk⟩;rw[hd];exact⟨g2,Kn⟩
theorem TG {E:Env}(hE:ka P E.ty){o:Oper}{p x:Operand}(hd:o.dst=none)(ho:o.op=.store T p x)(h:py C st a w){K:AS->az R}{ep t:Nat}{y:e.D}{cp:AS}(hT:jK E.ty T=some sh)(hp:st.rd p=.val false [.Ey (.loc ep (some (rt,t))) e y i off])(vd:st.take x=(.val gg vs,cp))(hlen:vs.length=sh.ct.size)(ik:off+sh.ct.size<=e.size)(hk:cp.qL rt t e i off vs K=some r):nG P C o a w K r:=by
 obtain⟨g,hg⟩:=h;have xd:=hg.rd p;rw[hp]at xd;obtain⟨_,b,ob,hv,_,_,Jv⟩:=fu xd;obtain⟨_,n,o0,len,cap,yK,hrt,N3,hob⟩:=Jv rt t rfl;obtain⟨g',⟨MU,II,Te,_⟩,pw⟩:=hg.amS x;rw[vd]at pw;unfold AS.qL at hk;split at hk;rename_i t' e' xs iL;split at hk;rename_i hee;subst hee;split at hk
 ·rename_i htt
  subst htt
  simp only at hk
  cases HD:idx xs i with
  |none=>rw[HD]at hk;simp[aa]at hk
  |some x0=>
  rw[HD]at hk
  simp only[aa]at hk
  split at hk
  ·rename_i x' hof
   obtain⟨n',Fb,hx0⟩:=ZA HD
   have Q3:n'=n:=by omega
   subst Q3
   obtain⟨v0,f2,UE,iG,Fc,Cz,pB⟩:=pw.Xv rt iL
   have UE: .slice (some ⟨b,o0,none⟩) len cap=v0:=by have h1:=UE t' rfl;have h2:g.hdr t'=.slice (some ⟨b,o0,none⟩) len cap:=hrt;rw[h1,Te,h2]
   obtain⟨b2,o2,abZ,arr,T',fr,f1,fx,f3,Rb,lf,uO,uU,Q7,GR,Jf⟩:=alJ iG hx0
   rw[<-UE]at Rb
   simp only[Value.slice.injEq,bq,Addr.mk.injEq]at Rb
   obtain⟨⟨rfl,rfl,_⟩,_⟩:=Rb
   obtain⟨fh,⟨us,fU,hrh⟩,SR,Zs⟩:=pw.hands 0 _ _ rfl
   have hul:=hrh.length
   have ao8:off+us.length<=e'.size:=by omega
   have ag9:(o0+n'*e'.size)+e'.size<=arr.size:=by rw[dc,fJ]at uU;omega
   have asO:=CE (c:=dq C g' cp w) Q7
   obtain⟨k1,k2,k3,hkx,r1,r2,r3⟩:=asO.mid off us.length
   have asv:=Fc
   rw[GR]at asv
   have yL:=dC.1 asv
   have Tc:∀c∈fh,c∉f2:=by intro c hc hm;have h1:=Zs c hc;rw[Cz c hm]at h1;cases rt<;>cases h1
   let w':=wQ w b (fw arr ((o0+n'*e'.size)+off) us) T' fr
   have IG:=mQ lf
   have Zq:∀c,c≠b->w'.heap[c]?=w.heap[c]?:=λc hc=>nA hc
   have aqE:∀u∈us,u.oneCell'=true:=by
    have MT:ca (dq C g' cp w) (((arr.toList.drop (o0+n'*e'.size)).take e'.size).take off++us++((arr.toList.drop (o0+n'*e'.size)).take e'.size).drop (off+us.length))
     (eX (cellsOf e' (.own none) x0) off vs) (k1++fh++k3):=by
     have e2:eX (cellsOf e' (.own none) x0) off vs=(cellsOf e' (.own none) x0).take off++vs++(cellsOf e' (.own none) x0).drop (off+us.length):=by simp only[eX];rw[hul]
     rw[e2]
     exact(r1.append hrh).append r3
    obtain⟨q1,q2,hq,hq1,hq2⟩:=AU MT hof;have asE:(((arr.toList.drop (o0+n'*e'.size)).take e'.size).take off++us++((arr.toList.drop (o0+n'*e'.size)).take e'.size).drop (off+us.length)).length=e'.size:=by rw[MT.length,JS (by rw[lL];omega),lL]
    rw[cx (by omega)]at hq1;intro u hu;exact fR.nS hq1 u (by simp[hu])
   have Zx:=GB (P:=P) (w:=w) (hE T sh hT) b ((o0+n'*e'.size)+off) fU (by omega) aqE lf uO
   have fg:(execOp a.eval o).run P w=.ok .skip w':=by simp only[execOp,ho,hv,Instr.storeAt,Instr.sureAddr,Sem.run_bind,Sem.run_pure,Result.andThen_ok];show((storeVar T ⟨b,ob+off,none⟩ (a.eval x)).run P w).andThen _=_;rw[hob,Zx];rfl
   have hle:(dq C g' cp w).Le ⟨g'.hw,g'.β,C.A,g'.hdr,nH cp,cp.ep+1,jL cp,w'⟩:=by
    refine⟨rfl,λ_ ht=>⟨ht,rfl⟩,λk c o u hA hu=>?_,Nat.le_succ _,λ_ hs=>⟨hs,rfl⟩,λhe=>absurd he (Nat.succ_ne_self _)⟩;have Fe:c≠b:=by rintro rfl;exact pw.Rq (Cz c (by rw[GR];simp)) k o hA
    rw[World.cell?_of_block (a:=⟨c,o,none⟩) (Zq c Fe)];exact hu
   have asB:∀c∈fx,c≠b:=by rintro c hc rfl;exact yL.1 (by simp[hc])
   have MT:ca ⟨g'.hw,g'.β,C.A,g'.hdr,nH cp,cp.ep+1,jL cp,w'⟩
    (((fw arr ((o0+n'*e'.size)+off) us).toList.drop (o0+n'*e'.size)).take e'.size) (eX (cellsOf e' (.own none) x0) off vs) (k1++fh++k3):=by
    have e2:eX (cellsOf e' (.own none) x0) off vs=(cellsOf e' (.own none) x0).take off++vs++(cellsOf e' (.own none) x0).drop (off+us.length):=by simp only[eX];rw[hul]
    rw[e2,LL ao8 ag9]
    refine((r1.mono hle (λc hc=>⟨Zq c (asB c (by rw[hkx];simp[hc])),rfl⟩)).append
     (hrh.mono hle (λc hc=>⟨Zq c (λe=>Tc c hc (by rw[GR,e];simp)),rfl⟩))).append
     (r3.mono hle (λc hc=>⟨Zq c (asB c (by rw[hkx];simp[hc])),rfl⟩))
   obtain⟨q1,q2,hq,hq1,hq2⟩:=AU MT hof
   have asE:(((fw arr ((o0+n'*e'.size)+off) us).toList.drop (o0+n'*e'.size)).take e'.size).length=e'.size:=by rw[MT.length,JS (by rw[lL];omega),lL]
   rw[dP (by omega)]at hq2
   have aqB:q2=[]:=hq2
   subst aqB
   rw[cx (by omega)]at hq1
   rw[bR]at hq
   have akV:=Jf w' us off x' q1 ao8 (zE IG) (λc hc=>Zq c (λe=>yL.1 (by rw[<-e];rcases aA.1 hc with k|k<;>simp[k]))) hq1
   have EB:∀c∈b::(f1++q1++f3),c∈f2\/c∈fh:=by intro c hc;rw[<-hq]at hc;simp only[bZ,aA]at hc;rw[GR,hkx];simp only[bZ,aA];rcases hc with hc|((hc|((hc|hc)|hc))|hc)<;>simp[hc]
   have Jr:(b::(f1++q1++f3)).Nodup:=by
    have hx2:=yL.2;rw[hkx]at hx2;rw[bj]at hx2;have m1:=aQ.1 hx2;have m2:=aQ.1 m1.2.1;have m2a:=m2.1;rw[bj]at m2a;have m3:=aQ.1 m2a;have m4:=aQ.1 m3.2.1;have inx:∀c,(c∈f1\/c∈k1\/c∈k3\/c∈f3)->c∈f2:=by intro c hc;rw[GR,hkx];simp only[bZ,aA];rcases hc with hc|hc|hc|hc<;>simp[hc]
    rw[<-hq];refine dC.2 ⟨λhm=>?_,?_⟩;simp only[aA]at hm;rcases hm with(hm|((hm|hm)|hm))|hm;exact yL.1 (by simp[hm]);exact yL.1 (by rw[hkx];simp[hm]);exact Tc b hm (by rw[GR];simp);exact yL.1 (by rw[hkx];simp[hm]);exact yL.1 (by simp[hm]);rw[bj];refine aQ.2 ⟨m1.1,aQ.2 ⟨?_,m2.2.1,?_⟩,?_⟩;rw[bj];refine aQ.2 ⟨m3.1,aQ.2 ⟨SR,m4.2.1,?_⟩,?_⟩;rintro c hc d hd rfl;exact Tc c hc (inx c (by simp[hd]));rintro c hc d hd rfl;rcases aA.1 hd with hd|hd;exact Tc c hd (inx c (by simp[hc]));exact m3.2.2 c hc c (bD _ hd) rfl;rintro c hc d hd rfl;simp only[aA]at hc;rcases hc with(hc|hc)|hc;exact m2.2.2 c (by simp[hc]) c hd rfl;exact Tc c hc (inx c (by simp[hd]));exact m2.2.2 c (by simp[hc]) c hd rfl;rintro c hc d hd rfl;simp only[aA]at hd;rcases hd with((hd|hd)|hd)|hd;exact m1.2.2 c hc c (by simp[hd]) rfl;exact Tc c hd (inx c (by simp[hc]));exact m1.2.2 c hc c (by simp[hd]) rfl;exact m1.2.2 c hc c (by simp[hd]) rfl
   have aqj:Fr (λc=>ej (g'.fj c)\/c∈f2) w w':=⟨rfl,rfl,rfl,by show _<=(wQ _ _ _ _ _).heap.size;rw[my];exact bt _,λc _ hc=>Zq c (λe=>hc (.inr (by rw[GR,e];simp)))⟩
   obtain⟨g2,Kn⟩:=pB w' g'.hw (xs.set n' x') (b::(f1++q1++f3)) akV Jr (λc hc=>by rcases EB c hc with k|k;exact⟨by show _<(wQ _ _ _ _ _).heap.size;rw[my];exact(pw.gN c _ (Cz c k)).1,.inl k⟩;exact⟨by show _<(wQ _ _ _ _ _).heap.size;rw[my];exact(pw.gN c _ (Zs c k)).1,.inr (by rw[Zs c k];rfl)⟩) aqj (λ_ _ _ _ _=>rfl)
   refine⟨undef,_,_,.inr ⟨rfl,fg⟩,?_,hk⟩
   rw[hd]
   have aql:i.toNat=n':=by omega
   rw[aql]
   exact⟨g2,Kn⟩
  ·cases hk
 cases hk;cases hk;rename_i t' i' q e' xs iL;split at hk;rename_i hee;subst hee;split at hk;rename_i hc;obtain⟨rfl,rfl⟩:=hc;simp only at hk;cases HD:Zz xs i' i with|none=>rw[HD]at hk;simp[aa]at hk|some x0=>obtain⟨rfl,aza⟩:=ahc HD;rw[HD]at hk;simp only[aa]at hk;split at hk;rename_i x' hof;exact S7 hE hd ho hT hlen pw (by rw[hv,hob,eN]) (by rw[Te];exact hrt) yK iL hof hk;cases hk
 cases hk;cases hk;cases hk
theorem aeJ {E:Env}(hE:ka P E.ty){o:Oper}{p x:Operand}(hd:o.dst=none)(ho:o.op=.store T p x)(h:py C st a w){K:AS->az R}(hk:zC E T p x st K=some r):nG P C o a w K r:=by unfold zC at hk;split at hk;rename_i sh s off hT hp;split at hk;rename_i gg vs cp vd;split at hk;rename_i cs kD;split at hk;rename_i hlen;split at hk;rename_i ik;exact TE hE hd ho h hT hp vd kD hlen.1 hlen.2 ik hk;cases hk;cases hk;cases hk;cases hk;rename_i sh ep rt t e y i off hT hp;split at hk;rename_i gg vs cp vd;split at hk;rename_i hc;exact TG hE hd ho h hT hp vd hc.1 hc.2 hk;cases hk;cases hk;cases hk
end Go.Dn
