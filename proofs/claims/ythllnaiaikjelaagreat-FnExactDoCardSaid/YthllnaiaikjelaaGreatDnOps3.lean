import Derived.Test.YthllnaiaikjelaaGreatDnOps2
/- Part 3: an element of an owned slice is written. -/
namespace Go.Dn
open Go.RowKit
variable {P:Program} {C:Ctx} {st:AS} {a:Act} {w:World} {R:Type} {r:R}
variable {arr:Array Value} {gg:Bool} {e:CT} {off:Nat} {rt:lS} {sh:Shape} {T:TypeId} {vs:ar AC} {us:iU}
theorem Eh {o:Nat}(h:o+us.length<=arr.size)(j:Nat): (eX arr o us).toList[j]?=if o<=j/\j<o+us.length then us[j-o]? else arr.toList[j]?:=by
 rw[BC us arr o h];have hl:(arr.toList.take o).length=o:=by rw[bm];simp;omega
 by_cases h1:j<o;rw[nt,aW,bF (by omega),dk,aM h1];by_cases h2:j<o+us.length;rw[zip,aW,bw (by omega),hl,bF (by omega)];rw[nt,bw (by rw[ay];omega),ay,hl,bQ];congr 1;omega
theorem kq {l:iU}(p n j:Nat):((l.drop p).take n)[j]?=if j<n then l[p+j]? else none:=by rw[dk];split;rw[bQ];rfl
theorem N7 {o0 size n i:Nat}(WU:off+us.length<=size)(hn:o0+(n+1)*size<=arr.size)(hi:i≠n): ((eX arr (o0+n*size+off) us).toList.drop (o0+i*size)).take size=(arr.toList.drop (o0+i*size)).take size:=by
 have Ff:o0+n*size+size<=arr.size:=by rw[cw,eF]at hn;omega
 apply cU;intro j;rw[kq,kq];split;rename_i hj;rw[Eh (by omega),aK];intro hc;rcases Nat.lt_or_gt_of_ne hi with h|h;have:(i+1)*size<=n*size:=cC _ h;rw[cw,eF]at this;omega;have:(n+1)*size<=i*size:=cC _ h;rw[cw,eF]at this;omega;rfl
theorem Qj {p size:Nat}(WU:off+us.length<=size)(Ff:p+size<=arr.size): ((eX arr (p+off) us).toList.drop p).take size= ((arr.toList.drop p).take size).take off++us++((arr.toList.drop p).take size).drop (off+us.length):=by
 have hl:((arr.toList.drop p).take size).length=size:=by simp;omega
 have EH:(((arr.toList.drop p).take size).take off).length=off:=by rw[bm,hl];omega
 apply cU;intro j;rw[kq];by_cases hj:j<size;rw[aM hj,Eh (by omega)];by_cases h1:j<off;rw[nt,aW,bF (by omega),dk,aM h1,kq,aM hj];by_cases h2:j<off+us.length;rw[zip,aW,bw (by omega),EH,bF (by omega)];congr 1;omega;rw[nt,bw (by rw[ay];omega),ay,EH,bQ,kq,show off+us.length+(j-(off+us.length))=j by omega,aM hj];rw[aK hj,bJ];simp only[ay,EH,bl,hl];omega
theorem amP {hw:Nat->Nat}{w:World}{v:Value}{xs:ar e.D}{fp0:ec}(h:eS hw w (.sl e) [v] xs fp0){n:Nat}{x:e.D}(hx:xs[n]?=some x): ∃b o0 cap arr T fr f1 fx f3,v=.slice (some ⟨b,o0,none⟩) xs.length cap/\w.heap[b]?=some (.cells arr T fr)/\tk arr fr/\o0+(n+1)*e.size<=arr.size/\ eS hw w e ((arr.toList.drop (o0+n*e.size)).take e.size) x fx/\fp0=b::(f1++fx++f3)/\ ∀(w':World)(us:iU)(off:Nat)(x':e.D)(fx':ec),off+us.length<=e.size->w'.heap[b]?=some (.cells (eX arr (o0+n*e.size+off) us) T fr)-> (∀b'∈f1++f3,w'.heap[b']?=w.heap[b']?)->eS hw w' e (((eX arr (o0+n*e.size+off) us).toList.drop (o0+n*e.size)).take e.size) x' fx'-> eS hw w' (.sl e) [v] (xs.set n x') (b::(f1++fx'++f3)):=by
 obtain⟨u,hu,h⟩:=h;simp at hu;subst hu;have Pf:n<xs.length:=(aJ.1 hx).1;rcases h with⟨⟨_,rfl⟩,rfl,rfl⟩|⟨b,o0,cap,arr,T,fr,fps,rfl,hb,uG,hs,hc,hh,rfl,hl,hr⟩;simp at hx;have TN:fps[n]?=some fps[n]:=al (by omega);have NC:=Hz TN;have hm:o0+(n+1)*e.size<=arr.size:=by rw[hs];exact Nat.add_le_add_left (cC _ (by omega)) _
 refine⟨b,o0,cap,arr,T,fr,(fps.take n).flatten,fps[n],(fps.drop (n+1)).flatten,rfl,hb,uG,hm,hr n x _ hx TN,by rw[NC.1],?_⟩;intro w' us off x' fx' WU ib hk fA;refine⟨_,rfl,.inr ⟨b,o0,cap,eX arr (o0+n*e.size+off) us,T,fr,fps.set n fx',by simp,ib,λj hj=>uG j (by rwa[jq]at hj),by rw[jq];exact hs,by simpa using hc,by simpa using hh,by rw[NC.2],by simp[hl],?_⟩⟩;intro i y f hy hf;by_cases vC:i=n;subst vC;rw[bt]at hy hf;simp only[cd,Pf]at hy;simp only[cd]at hf;rw[zip]at hf;simp at hy hf;subst hy;subst hf;exact fA;rw[aZ (cW vC)]at hy hf;rw[N7 WU hm vC];refine eS.mono (hr i y f hy hf) (λb' alA=>⟨hk b' ?_,rfl⟩);have U6:i<fps.length:=(aJ.1 hf).1;have hfi:fps[i]=f:=by rw[al U6]at hf;simpa using hf
 rcases Nat.lt_or_gt_of_ne vC with iG|hgt;refine br _ (List.mem_flatten.2 ⟨f,?_,alA⟩);rw[List.mem_take_iff_getElem];exact⟨i,by omega,hfi⟩;refine bh _ (List.mem_flatten.2 ⟨f,?_,alA⟩);rw[List.mem_drop_iff_getElem];exact⟨i-(n+1),by omega,by rw[<-hfi];congr 1;omega⟩
theorem Vc {α:Type}{xs:ar α}{i:Int}{x:α}(h:idx xs i=some x):∃n:Nat,i=n/\xs[n]?=some x:=by cases i with|ofNat n=>exact⟨n,rfl,h⟩|negSucc n=>simp[idx]at h
theorem WR {E:Env}(hE:kA P E.ty){o:Oper}{p x:Operand}(hd:o.dst=none)(ho:o.op=.store T p x){K:AS->au R}{t':Nat}{i:Int}{st':AS}{g':Gh}(hT:jR E.ty T=some sh)(hlen:vs.length=sh.ct.size)(oV:dM C g' st' a w [(a.eval x,.val gg vs)]){b o0 len cap n:Nat}{q:au Nat}{xs:ar e.D}{x':e.D}(hv:a.eval p=.pointer (some ⟨b,o0+n*e.size,none⟩))(hrt:g'.hdr t'=.slice (some ⟨b,o0,none⟩) len cap)(vC:i=n)(iM:st'.fi rt=some (.sl (.fK (some t') i q) e xs))(hof:jM e vs=some (x',[]))(hk:K {st'.fC rt (.sl (.own (some t')) e (xs.set i.toNat x'))with ep:=st'.ep+1}=some r):oX P C o a w K r:=by
 obtain⟨v0,f2,dY,C1,EH,ng⟩:=oV.aaz rt (by simp) iM;obtain⟨_,⟨k,hik,fA⟩,arv⟩:=dY;have hkn:k=n:=by omega
 subst hkn;obtain⟨b2,o2,abk,arr,T',fr,fps,Sz,kG,uG,hs,hc,hh,Jn,hl,hkl,hfk,hr⟩:=fA;have kG:w.heap[b2]?=some (.cells arr T' fr):=kG;have h1:v0=g'.hdr t':=(arv t' rfl).2;rw[hrt,Sz]at h1;simp only[Value.slice.injEq,bf,Addr.mk.injEq]at h1;obtain⟨⟨rfl,rfl,_⟩,_⟩:=h1;obtain⟨fh,⟨us,eM,hrh⟩,Sy,hlh⟩:=oV.hands 0 _ _ rfl;obtain⟨q1,q2,hq,hq1,hq2⟩:=rb hrh hof;have ab1:us.drop e.size=[]:=by cases hd0:us.drop e.size with|nil=>rfl|cons _ _=>rw[hd0]at hq2;exact hq2.elim
 rw[ab1]at hq2;have alW:q2=[]:=hq2;subst alW;rw[bC]at hq;subst hq;have WX:us.take e.size=us:=by have:=cK e.size us;rw[ab1,bC]at this;exact this
 rw[WX]at hq1;have hul:us.length=e.size:=eS.length hq1;have xp:o2+(k+1)*e.size<=arr.size:=by rw[hs];exact Nat.add_le_add_left (cC _ (by omega)) _
 have aiP:o2+k*e.size+e.size<=arr.size:=by rw[cw,eF]at xp;omega
 let w':=zg w b2 (eX arr (o2+k*e.size+0) us) T' fr;have Lv:=og kG;have X0:∀c,c≠b2->w'.heap[c]?=w.heap[c]?:=λc hc=>oT hc;have aAf:=hrh.length;have ab8:=KA (P:=P) (w:=w) (hE T sh hT) b2 (o2+k*e.size+0) eM (by omega) (λu hu=>eS.pt hq1 u hu) kG uG;have ej:(execOp a.eval o).run P w=.ok .skip w':=by simp only[execOp,ho,hv,Instr.storeAt,Instr.sureAddr,Sem.run_bind,Sem.run_pure,Result.andThen_ok];show((storeVar T ⟨b2,o2+k*e.size+0,none⟩ (a.eval x)).run P w).andThen _=_;rw[ab8];rfl
 have NC:=Hz hfk;have xe:b2∉fps.flatten:=by rw[Jn]at C1;exact(dg.1 C1).1
 have hnf:fps.flatten.Nodup:=by rw[Jn]at C1;exact(dg.1 C1).2
 have WT:∀c∈fh,c∉f2:=by intro c hc hm;have h1:=hlh c hc;rw[EH c hm]at h1;cases rt<;>cases h1
 have aq8:∀c∈fh,c≠b2:=λc hc e=>WT c hc (by rw[Jn,e];simp);have Sw:∀c,c∈(fps.set k fh).flatten↔c∈fps.flatten\/c∈fh:=by intro c;rw[NC.2,NC.1];simp only[aA,List.not_mem_nil,or_false];constructor;rintro((h|h)|h)<;>simp[h];rintro((h|h)|h)<;>simp[h]
 have alT:eS g'.hw w' (.sl e) [v0] (xs.set k x') (b2::(fps.set k fh).flatten):=by
  refine⟨v0,rfl,.inr ⟨b2,o2,abk,eX arr (o2+k*e.size+0) us,T',fr,fps.set k fh,by rw[Sz];simp,CW Lv,λj hj=>uG j (by rwa[jq]at hj),by rw[jq];exact hs,by simpa using hc,by rw[aL];exact hh,rfl,by simp[hl],?_⟩⟩;intro j y f hy hf;by_cases hjk:j=k;subst hjk;rw[bt]at hy hf;simp only[cd,hkl]at hy;simp only[cd]at hf;rw[zip]at hf;simp at hy hf;subst hy;subst hf;rw[Qj (by omega) aiP];have e1:((arr.toList.drop (o2+j*e.size)).take e.size).take 0++us++((arr.toList.drop (o2+j*e.size)).take e.size).drop (0+us.length)=us:=by rw[List.take_zero,bE,dj (by simp;omega),bC]
  rw[e1];exact eS.mono hq1 (λc hc=>⟨X0 c (aq8 c hc),rfl⟩);rw[aZ (cW hjk)]at hy hf;rw[N7 (by omega) xp hjk];refine eS.mono (hr j y f hjk hy hf) (λc hc=>⟨X0 c (λe0=>xe ?_),rfl⟩);rw[<-e0];exact List.mem_flatten.2 ⟨f,bK hf,hc⟩
 have azN:(b2::(fps.set k fh).flatten).Nodup:=by
  refine dg.2 ⟨λhm=>?_,?_⟩;rcases(Sw b2).1 hm with h|h;exact xe h;exact aq8 b2 h rfl;rw[NC.2];rw[NC.1,bC]at hnf;have m:=aG.1 hnf;have ap4:∀c,c∈(fps.take k).flatten\/c∈(fps.drop (k+1)).flatten->c∈f2:=by intro c hc;rw[Jn,NC.1];rcases hc with hc|hc<;>simp[hc]
  refine aG.2 ⟨aG.2 ⟨m.1,Sy,?_⟩,m.2.1,?_⟩;rintro c hc d hd rfl;exact WT c hd (ap4 c (.inl hc));rintro c hc d hd rfl;rcases aA.1 hc with hc|hc;exact m.2.2 c hc c hd rfl;exact WT c hc (ap4 c (.inr hd))
 have azE:i.toNat=k:=by omega
 rw[azE]at hk
 obtain⟨g2,OJ⟩:=ng w' g'.hw (.sl (.own (some t')) e (xs.set k x')) (b2::(fps.set k fh).flatten) (λc' hle Tj Gv=>⟨by rw[Tj,Gv];exact alT,λt ht=>by simp at ht;subst ht;have h0:=arv t' rfl;exact⟨(hle.hdr t' h0.1).1,by rw[(hle.hdr t' h0.1).2];exact h0.2⟩⟩) azN (λc hc=>by
  show _<(zg _ _ _ _ _).heap.size/\_
  rw[nA]
  rcases cp.1 hc with rfl|hc
  ·exact⟨Lv,.inl (by rw[Jn];simp)⟩
  ·rcases(Sw c).1 hc with h|h
   ·have:c∈f2:=by rw[Jn];simp[h]
    exact⟨(oV.fV c _ (EH c this)).1,.inl this⟩
   ·exact⟨(oV.fV c _ (hlh c h)).1,.inr (by rw[hlh c h];rfl)⟩)
  ⟨rfl,rfl,rfl,by show _<=(zg _ _ _ _ _).heap.size;rw[nA];exact ba _,λc _ hc=>X0 c (λe=>hc (.inr (by rw[Jn,e];simp)))⟩ (λ_ _ _ _ _=>rfl)
 refine⟨undef,_,_,.inr ⟨rfl,ej⟩,?_,hk⟩;rw[hd];exact⟨g2,OJ⟩
theorem Xl {E:Env}(hE:kA P E.ty){o:Oper}{p x:Operand}(hd:o.dst=none)(ho:o.op=.store T p x)(h:pF C st a w){K:AS->au R}{ep t:Nat}{y:e.D}{i:Int}{st':AS}(hT:jR E.ty T=some sh)(hp:st.rd p=.val false [.Hy (.loc ep (some (rt,t))) e y i off])(xv:st.take x=(.val gg vs,st'))(hlen:vs.length=sh.ct.size)(iy:off+sh.ct.size<=e.size)(hk:st'.sJ rt t e i off vs K=some r):oX P C o a w K r:=by
 obtain⟨g,hg⟩:=h;have zQ:=hg.rd p;rw[hp]at zQ;obtain⟨_,b,ob,hv,_,_,NS⟩:=eG zQ;obtain⟨_,n,o0,len,cap,vC,hrt,Pf,hob⟩:=NS rt t rfl;obtain⟨g',⟨ON,Gz,PI,_⟩,oV⟩:=hg.anJ x;rw[xv]at oV;unfold AS.sJ at hk;split at hk;rename_i t' e' xs iM;split at hk;rename_i hee;subst hee;split at hk
 ·rename_i htt
  subst htt
  simp only at hk
  cases JI:idx xs i with
  |none=>rw[JI]at hk;simp[aa]at hk
  |some x0=>
  rw[JI]at hk
  simp only[aa]at hk
  split at hk
  ·rename_i x' hof
   obtain⟨n',Ff,hx0⟩:=Vc JI
   have OL:n'=n:=by omega
   subst OL
   obtain⟨v0,f2,X3,fA,C1,EH,ng⟩:=oV.aaA rt iM
   have X3: .slice (some ⟨b,o0,none⟩) len cap=v0:=by have h1:=X3 t' rfl;have h2:g.hdr t'=.slice (some ⟨b,o0,none⟩) len cap:=hrt;rw[h1,PI,h2]
   obtain⟨b2,o2,abk,arr,T',fr,f1,fx,f3,Sz,kG,uG,xp,NQ,Hp,Ih⟩:=amP fA hx0
   rw[<-X3]at Sz
   simp only[Value.slice.injEq,bf,Addr.mk.injEq]at Sz
   obtain⟨⟨rfl,rfl,_⟩,_⟩:=Sz
   obtain⟨fh,⟨us,eM,hrh⟩,Sy,hlh⟩:=oV.hands 0 _ _ rfl
   have hul:=hrh.length
   have apu:off+us.length<=e'.size:=by omega
   have aiP:(o0+n'*e'.size)+e'.size<=arr.size:=by rw[cw,eF]at xp;omega
   have alZ:=wz (c:=cO C g' st' w) NQ
   obtain⟨k1,k2,k3,hkx,r1,r2,r3⟩:=alZ.mid off us.length
   have aq7:=C1
   rw[Hp]at aq7
   have xe:=dg.1 aq7
   have WT:∀c∈fh,c∉f2:=by intro c hc hm;have h1:=hlh c hc;rw[EH c hm]at h1;cases rt<;>cases h1
   let w':=zg w b (eX arr ((o0+n'*e'.size)+off) us) T' fr
   have Lv:=og kG
   have X0:∀c,c≠b->w'.heap[c]?=w.heap[c]?:=λc hc=>oT hc
   have aql:∀u∈us,u.oneCell'=true:=by
    have PO:bD (cO C g' st' w) (((arr.toList.drop (o0+n'*e'.size)).take e'.size).take off++us++((arr.toList.drop (o0+n'*e'.size)).take e'.size).drop (off+us.length))
     (du (cellsOf e' (.own none) x0) off vs) (k1++fh++k3):=by
     have e2:du (cellsOf e' (.own none) x0) off vs=(cellsOf e' (.own none) x0).take off++vs++(cellsOf e' (.own none) x0).drop (off+us.length):=by simp only[du];rw[hul]
     rw[e2]
     exact(r1.append hrh).append r3
    obtain⟨q1,q2,hq,hq1,hq2⟩:=rb PO hof;have arf:(((arr.toList.drop (o0+n'*e'.size)).take e'.size).take off++us++((arr.toList.drop (o0+n'*e'.size)).take e'.size).drop (off+us.length)).length=e'.size:=by rw[PO.length,Oi (by rw[mB];omega),mB]
    rw[bL (by omega)]at hq1;intro u hu;exact eS.pt hq1 u (by simp[hu])
   have ab8:=KA (P:=P) (w:=w) (hE T sh hT) b ((o0+n'*e'.size)+off) eM (by omega) aql kG uG
   have ej:(execOp a.eval o).run P w=.ok .skip w':=by simp only[execOp,ho,hv,Instr.storeAt,Instr.sureAddr,Sem.run_bind,Sem.run_pure,Result.andThen_ok];show((storeVar T ⟨b,ob+off,none⟩ (a.eval x)).run P w).andThen _=_;rw[hob,ab8];rfl
   have hle:(cO C g' st' w).Le ⟨g'.hw,g'.β,C.A,g'.hdr,nm st',st'.ep+1,ic st',w'⟩:=by
    refine⟨rfl,λ_ ht=>⟨ht,rfl⟩,λk c o u hA hu=>?_,Nat.le_succ _,λ_ hs=>⟨hs,rfl⟩,λhe=>absurd he (Nat.succ_ne_self _)⟩;have Jo:c≠b:=by rintro rfl;exact oV.RB (EH c (by rw[Hp];simp)) k o hA
    rw[World.cell?_of_block (a:=⟨c,o,none⟩) (X0 c Jo)];exact hu
   have arc:∀c∈fx,c≠b:=by rintro c hc rfl;exact xe.1 (by simp[hc])
   have PO:bD ⟨g'.hw,g'.β,C.A,g'.hdr,nm st',st'.ep+1,ic st',w'⟩
    (((eX arr ((o0+n'*e'.size)+off) us).toList.drop (o0+n'*e'.size)).take e'.size) (du (cellsOf e' (.own none) x0) off vs) (k1++fh++k3):=by
    have e2:du (cellsOf e' (.own none) x0) off vs=(cellsOf e' (.own none) x0).take off++vs++(cellsOf e' (.own none) x0).drop (off+us.length):=by simp only[du];rw[hul]
    rw[e2,Qj apu aiP]
    refine((r1.mono hle (λc hc=>⟨X0 c (arc c (by rw[hkx];simp[hc])),rfl⟩)).append
     (hrh.mono hle (λc hc=>⟨X0 c (λe=>WT c hc (by rw[Hp,e];simp)),rfl⟩))).append
     (r3.mono hle (λc hc=>⟨X0 c (arc c (by rw[hkx];simp[hc])),rfl⟩))
   obtain⟨q1,q2,hq,hq1,hq2⟩:=rb PO hof
   have arf:(((eX arr ((o0+n'*e'.size)+off) us).toList.drop (o0+n'*e'.size)).take e'.size).length=e'.size:=by rw[PO.length,Oi (by rw[mB];omega),mB]
   rw[dj (by omega)]at hq2
   have alW:q2=[]:=hq2
   subst alW
   rw[bL (by omega)]at hq1
   rw[bC]at hq
   have alT:=Ih w' us off x' q1 apu (CW Lv) (λc hc=>X0 c (λe=>xe.1 (by rw[<-e];rcases aA.1 hc with k|k<;>simp[k]))) hq1
   have JJ:∀c∈b::(f1++q1++f3),c∈f2\/c∈fh:=by intro c hc;rw[<-hq]at hc;simp only[cp,aA]at hc;rw[Hp,hkx];simp only[cp,aA];rcases hc with hc|((hc|((hc|hc)|hc))|hc)<;>simp[hc]
   have JK:(b::(f1++q1++f3)).Nodup:=by
    have hx2:=xe.2;rw[hkx]at hx2;rw[aW]at hx2;have m1:=aG.1 hx2;have m2:=aG.1 m1.2.1;have m2a:=m2.1;rw[aW]at m2a;have m3:=aG.1 m2a;have m4:=aG.1 m3.2.1;have inx:∀c,(c∈f1\/c∈k1\/c∈k3\/c∈f3)->c∈f2:=by intro c hc;rw[Hp,hkx];simp only[cp,aA];rcases hc with hc|hc|hc|hc<;>simp[hc]
    rw[<-hq];refine dg.2 ⟨λhm=>?_,?_⟩;simp only[aA]at hm;rcases hm with(hm|((hm|hm)|hm))|hm;exact xe.1 (by simp[hm]);exact xe.1 (by rw[hkx];simp[hm]);exact WT b hm (by rw[Hp];simp);exact xe.1 (by rw[hkx];simp[hm]);exact xe.1 (by simp[hm]);rw[aW];refine aG.2 ⟨m1.1,aG.2 ⟨?_,m2.2.1,?_⟩,?_⟩;rw[aW];refine aG.2 ⟨m3.1,aG.2 ⟨Sy,m4.2.1,?_⟩,?_⟩;rintro c hc d hd rfl;exact WT c hc (inx c (by simp[hd]));rintro c hc d hd rfl;rcases aA.1 hd with hd|hd;exact WT c hd (inx c (by simp[hc]));exact m3.2.2 c hc c (bh _ hd) rfl;rintro c hc d hd rfl;simp only[aA]at hc;rcases hc with(hc|hc)|hc;exact m2.2.2 c (by simp[hc]) c hd rfl;exact WT c hc (inx c (by simp[hd]));exact m2.2.2 c (by simp[hc]) c hd rfl;rintro c hc d hd rfl;simp only[aA]at hd;rcases hd with((hd|hd)|hd)|hd;exact m1.2.2 c hc c (by simp[hd]) rfl;exact WT c hd (inx c (by simp[hc]));exact m1.2.2 c hc c (by simp[hd]) rfl;exact m1.2.2 c hc c (by simp[hd]) rfl
   have ap2:Fr (λc=>dm (g'.eo c)\/c∈f2) w w':=⟨rfl,rfl,rfl,by show _<=(zg _ _ _ _ _).heap.size;rw[nA];exact ba _,λc _ hc=>X0 c (λe=>hc (.inr (by rw[Hp,e];simp)))⟩
   obtain⟨g2,OJ⟩:=ng w' g'.hw (xs.set n' x') (b::(f1++q1++f3)) alT JK (λc hc=>by rcases JJ c hc with k|k;exact⟨by show _<(zg _ _ _ _ _).heap.size;rw[nA];exact(oV.fV c _ (EH c k)).1,.inl k⟩;exact⟨by show _<(zg _ _ _ _ _).heap.size;rw[nA];exact(oV.fV c _ (hlh c k)).1,.inr (by rw[hlh c k];rfl)⟩) ap2 (λ_ _ _ _ _=>rfl)
   refine⟨undef,_,_,.inr ⟨rfl,ej⟩,?_,hk⟩
   rw[hd]
   have alP:i.toNat=n':=by omega
   rw[alP]
   exact⟨g2,OJ⟩
  ·cases hk
 cases hk;cases hk;rename_i t' i' q e' xs iM;split at hk;rename_i hee;subst hee;split at hk;rename_i hc;obtain⟨rfl,rfl⟩:=hc;simp only at hk;cases JI:aiQ xs i' i with|none=>rw[JI]at hk;simp[aa]at hk|some x0=>obtain⟨rfl,aAk⟩:=aiR JI;rw[JI]at hk;simp only[aa]at hk;split at hk;rename_i x' hof;exact WR hE hd ho hT hlen oV (by rw[hv,hob,dW]) (by rw[PI];exact hrt) vC iM hof hk;cases hk
 cases hk;cases hk;cases hk
theorem agD {E:Env}(hE:kA P E.ty){o:Oper}{p x:Operand}(hd:o.dst=none)(ho:o.op=.store T p x)(h:pF C st a w){K:AS->au R}(hk:CR E T p x st K=some r):oX P C o a w K r:=by unfold CR at hk;split at hk;rename_i sh s off hT hp;split at hk;rename_i gg vs st' xv;split at hk;rename_i cs kR;split at hk;rename_i hlen;split at hk;rename_i iy;exact Xj hE hd ho h hT hp xv kR hlen.1 hlen.2 iy hk;cases hk;cases hk;cases hk;cases hk;rename_i sh ep rt t e y i off hT hp;split at hk;rename_i gg vs st' xv;split at hk;rename_i hc;exact Xl hE hd ho h hT hp xv hc.1 hc.2 hk;cases hk;cases hk;cases hk
end Go.Dn
