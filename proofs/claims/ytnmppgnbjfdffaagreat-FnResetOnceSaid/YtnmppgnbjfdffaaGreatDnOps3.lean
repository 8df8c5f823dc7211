import Derived.Test.YtnmppgnbjfdffaaGreatDnOps2
/- Part 3: an element of an owned slice is written. -/
namespace Go.Dn
open Go.RowKit
variable {P:Program} {C:Ctx} {st:AS} {a:Act} {w:World} {R:Type} {r:R}
variable {arr:Array Value} {gg:Bool} {e:CT} {i:Int} {off:Nat} {rt:jU} {sh:Shape} {T:TypeId} {vs:aw AC} {us:ir}
theorem vJ {o:Nat}(h:o+us.length<=arr.size)(j:Nat): (eh arr o us).toList[j]?=if o<=j/\j<o+us.length then us[j-o]? else arr.toList[j]?:=by
 rw[tq us arr o h];have hl:(arr.toList.take o).length=o:=by rw[aX];simp;omega
 by_cases h1:j<o;rw[lF,aJ,br (by omega),dz,aF h1];by_cases h2:j<o+us.length;rw[zip,aJ,bl (by omega),hl,br (by omega)];rw[lF,bl (by rw[ai];omega),ai,hl,bJ];congr 1;omega
theorem iU {l:ir}(p n j:Nat):((l.drop p).take n)[j]?=if j<n then l[p+j]? else none:=by rw[dz];split;rw[bJ];rfl
theorem Dq {o0 size n i:Nat}(Lq:off+us.length<=size)(hn:o0+(n+1)*size<=arr.size)(hi:i≠n): ((eh arr (o0+n*size+off) us).toList.drop (o0+i*size)).take size=(arr.toList.drop (o0+i*size)).take size:=by
 have AY:o0+n*size+size<=arr.size:=by rw[cw,eT]at hn;omega
 apply cE;intro j;rw[iU,iU];split;rename_i hj;rw[vJ (by omega),aG];intro hc;rcases Nat.lt_or_gt_of_ne hi with h|h;have:(i+1)*size<=n*size:=cq _ h;rw[cw,eT]at this;omega;have:(n+1)*size<=i*size:=cq _ h;rw[cw,eT]at this;omega;rfl
theorem Fw {p size:Nat}(Lq:off+us.length<=size)(AY:p+size<=arr.size): ((eh arr (p+off) us).toList.drop p).take size= ((arr.toList.drop p).take size).take off++us++((arr.toList.drop p).take size).drop (off+us.length):=by
 have hl:((arr.toList.drop p).take size).length=size:=by simp;omega
 have xo:(((arr.toList.drop p).take size).take off).length=off:=by rw[aX,hl];omega
 apply cE;intro j;rw[iU];by_cases hj:j<size;rw[aF hj,vJ (by omega)];by_cases h1:j<off;rw[lF,aJ,br (by omega),dz,aF h1,iU,aF hj];by_cases h2:j<off+us.length;rw[zip,aJ,bl (by omega),xo,br (by omega)];congr 1;omega;rw[lF,bl (by rw[ai];omega),ai,xo,bJ,iU,show off+us.length+(j-(off+us.length))=j by omega,aF hj];rw[aG hj,bu];simp only[ai,xo,aN,hl];omega
theorem abv {hw:Nat->Nat}{w:World}{v:Value}{xs:aw e.D}{fp0:ff}(h:eV hw w (.sl e) [v] xs fp0){n:Nat}{x:e.D}(hx:xs[n]?=some x): ∃b o0 cap arr T fr f1 fx f3,v=.slice (some ⟨b,o0,none⟩) xs.length cap/\w.heap[b]?=some (.cells arr T fr)/\oo arr fr/\o0+(n+1)*e.size<=arr.size/\ eV hw w e ((arr.toList.drop (o0+n*e.size)).take e.size) x fx/\fp0=b::(f1++fx++f3)/\ ∀(w':World)(us:ir)(off:Nat)(x':e.D)(fx':ff),off+us.length<=e.size->w'.heap[b]?=some (.cells (eh arr (o0+n*e.size+off) us) T fr)-> (∀b'∈f1++f3,w'.heap[b']?=w.heap[b']?)->eV hw w' e (((eh arr (o0+n*e.size+off) us).toList.drop (o0+n*e.size)).take e.size) x' fx'-> eV hw w' (.sl e) [v] (xs.set n x') (b::(f1++fx'++f3)):=by
 obtain⟨u,hu,h⟩:=h;simp at hu;subst hu;have Hw:n<xs.length:=(aE.1 hx).1;rcases h with⟨⟨_,rfl⟩,rfl,rfl⟩|⟨b,o0,cap,arr,T,fr,fps,rfl,hb,qv,hs,hc,hh,rfl,hl,hr⟩;simp at hx;have Qt:fps[n]?=some fps[n]:=al (by omega);have En:=BB Qt;have hm:o0+(n+1)*e.size<=arr.size:=by rw[hs];exact Nat.add_le_add_left (cq _ (by omega)) _
 refine⟨b,o0,cap,arr,T,fr,(fps.take n).flatten,fps[n],(fps.drop (n+1)).flatten,rfl,hb,qv,hm,hr n x _ hx Qt,by rw[En.1],?_⟩;intro w' us off x' fx' Lq gK hk gC;refine⟨_,rfl,.inr ⟨b,o0,cap,eh arr (o0+n*e.size+off) us,T,fr,fps.set n fx',by simp,gK,λj hj=>qv j (by rwa[ik]at hj),by rw[ik];exact hs,by simpa using hc,by simpa using hh,by rw[En.2],by simp[hl],?_⟩⟩;intro i y f hy hf;by_cases rP:i=n;subst rP;rw[bm]at hy hf;simp only[bM,Hw]at hy;simp only[bM]at hf;rw[zip]at hf;simp at hy hf;subst hy;subst hf;exact gC;rw[aP (cL rP)]at hy hf;rw[Dq Lq hm rP];refine eV.mono (hr i y f hy hf) (λb' ag8=>⟨hk b' ?_,rfl⟩);have Lo:i<fps.length:=(aE.1 hf).1;have hfi:fps[i]=f:=by rw[al Lo]at hf;simpa using hf
 rcases Nat.lt_or_gt_of_ne rP with hG|hgt;refine bn _ (List.mem_flatten.2 ⟨f,?_,ag8⟩);rw[List.mem_take_iff_getElem];exact⟨i,by omega,hfi⟩;refine ba _ (List.mem_flatten.2 ⟨f,?_,ag8⟩);rw[List.mem_drop_iff_getElem];exact⟨i-(n+1),by omega,by rw[<-hfi];congr 1;omega⟩
theorem QD {α:Type}{xs:aw α}{x:α}(h:idx xs i=some x):∃n:Nat,i=n/\xs[n]?=some x:=by cases i with|ofNat n=>exact⟨n,rfl,h⟩|negSucc n=>simp[idx]at h
theorem Li {E:Env}(hE:iY P E.ty){o:Oper}{p x:Operand}(hd:o.dst=none)(ho:o.op=.store T p x){K:AS->ay R}{t':Nat}{bI:AS}{g':Gh}(hT:iP E.ty T=some sh)(hlen:vs.length=sh.ct.size)(mO:dH C g' bI a w [(a.eval x,.val gg vs)]){b o0 len cap n:Nat}{q:ay Nat}{xs:aw e.D}{x':e.D}(hv:a.eval p=.pointer (some ⟨b,o0+n*e.size,none⟩))(hrt:g'.hdr t'=.slice (some ⟨b,o0,none⟩) len cap)(rP:i=n)(gG:bI.eJ rt=some (.sl (.eX (some t') i q) e xs))(Zl:kB e vs=some (x',[]))(hk:K {bI.eP rt (.sl (.own (some t')) e (xs.set i.toNat x'))with ep:=bI.ep+1}=some r):lH P C o a w K r:=by
 obtain⟨v0,f2,eI,Bg,xo,oO⟩:=mO.OS rt (by simp) gG;obtain⟨_,⟨k,hik,gC⟩,ahE⟩:=eI;have Zk:k=n:=by omega
 subst Zk;obtain⟨b2,o2,SZ,arr,T',fr,fps,JM,jK,qv,hs,hc,hh,Aa,hl,hkl,hfk,hr⟩:=gC;have jK:w.heap[b2]?=some (.cells arr T' fr):=jK;have h1:v0=g'.hdr t':=(ahE t' rfl).2;rw[hrt,JM]at h1;simp only[Value.slice.injEq,aZ,Addr.mk.injEq]at h1;obtain⟨⟨rfl,rfl,_⟩,_⟩:=h1;obtain⟨fh,⟨us,eY,Sz⟩,La,Qw⟩:=mO.hands 0 _ _ rfl;obtain⟨q1,q2,hq,Zm,hq2⟩:=vH Sz Zl;have Qr:us.drop e.size=[]:=by cases hd0:us.drop e.size with|nil=>rfl|cons _ _=>rw[hd0]at hq2;exact hq2.elim
 rw[Qr]at hq2;have afA:q2=[]:=hq2;subst afA;rw[bt]at hq;subst hq;have hus:us.take e.size=us:=by have:=bU e.size us;rw[Qr,bt]at this;exact this
 rw[hus]at Zm;have hul:us.length=e.size:=eV.length Zm;have sB:o2+(k+1)*e.size<=arr.size:=by rw[hs];exact Nat.add_le_add_left (cq _ (by omega)) _
 have Xf:o2+k*e.size+e.size<=arr.size:=by rw[cw,eT]at sB;omega
 let w':=rX w b2 (eh arr (o2+k*e.size+0) us) T' fr;have Dc:=la jK;have TK:∀c,c≠b2->w'.heap[c]?=w.heap[c]?:=λc hc=>lB hc;have amm:=Sz.length;have QB:=AE (P:=P) (w:=w) (hE T sh hT) b2 (o2+k*e.size+0) eY (by omega) (λu hu=>eV.lV Zm u hu) jK qv;have dV:(execOp a.eval o).run P w=.ok .skip w':=by simp only[execOp,ho,hv,Instr.storeAt,Instr.sureAddr,Sem.run_bind,Sem.run_pure,Result.andThen_ok];show((storeVar T ⟨b2,o2+k*e.size+0,none⟩ (a.eval x)).run P w).andThen _=_;rw[QB];rfl
 have En:=BB hfk;have tZ:b2∉fps.flatten:=by rw[Aa]at Bg;exact(cZ.1 Bg).1
 have hnf:fps.flatten.Nodup:=by rw[Aa]at Bg;exact(cZ.1 Bg).2
 have Lm:∀c∈fh,c∉f2:=by intro c hc hm;have h1:=Qw c hc;rw[xo c hm]at h1;cases rt<;>cases h1
 have ahh:∀c∈fh,c≠b2:=λc hc e=>Lm c hc (by rw[Aa,e];simp);have aes:∀c,c∈(fps.set k fh).flatten↔c∈fps.flatten\/c∈fh:=by intro c;rw[En.2,En.1];simp only[ax,List.not_mem_nil,or_false];constructor;rintro((h|h)|h)<;>simp[h];rintro((h|h)|h)<;>simp[h]
 have aaI:eV g'.hw w' (.sl e) [v0] (xs.set k x') (b2::(fps.set k fh).flatten):=by
  refine⟨v0,rfl,.inr ⟨b2,o2,SZ,eh arr (o2+k*e.size+0) us,T',fr,fps.set k fh,by rw[JM];simp,uE Dc,λj hj=>qv j (by rwa[ik]at hj),by rw[ik];exact hs,by simpa using hc,by rw[aB];exact hh,rfl,by simp[hl],?_⟩⟩;intro j y f hy hf;by_cases hjk:j=k;subst hjk;rw[bm]at hy hf;simp only[bM,hkl]at hy;simp only[bM]at hf;rw[zip]at hf;simp at hy hf;subst hy;subst hf;rw[Fw (by omega) Xf];have e1:((arr.toList.drop (o2+j*e.size)).take e.size).take 0++us++((arr.toList.drop (o2+j*e.size)).take e.size).drop (0+us.length)=us:=by rw[List.take_zero,cA,cy (by simp;omega),bt]
  rw[e1];exact eV.mono Zm (λc hc=>⟨TK c (ahh c hc),rfl⟩);rw[aP (cL hjk)]at hy hf;rw[Dq (by omega) sB hjk];refine eV.mono (hr j y f hjk hy hf) (λc hc=>⟨TK c (λe0=>tZ ?_),rfl⟩);rw[<-e0];exact List.mem_flatten.2 ⟨f,bj hf,hc⟩
 have alH:(b2::(fps.set k fh).flatten).Nodup:=by
  refine cZ.2 ⟨λhm=>?_,?_⟩;rcases(aes b2).1 hm with h|h;exact tZ h;exact ahh b2 h rfl;rw[En.2];rw[En.1,bt]at hnf;have m:=aH.1 hnf;have ahj:∀c,c∈(fps.take k).flatten\/c∈(fps.drop (k+1)).flatten->c∈f2:=by intro c hc;rw[Aa,En.1];rcases hc with hc|hc<;>simp[hc]
  refine aH.2 ⟨aH.2 ⟨m.1,La,?_⟩,m.2.1,?_⟩;rintro c hc d hd rfl;exact Lm c hd (ahj c (.inl hc));rintro c hc d hd rfl;rcases ax.1 hc with hc|hc;exact m.2.2 c hc c hd rfl;exact Lm c hc (ahj c (.inr hd))
 have alA:i.toNat=k:=by omega
 rw[alA]at hk
 obtain⟨g2,DW⟩:=oO w' g'.hw (.sl (.own (some t')) e (xs.set k x')) (b2::(fps.set k fh).flatten) (λc' hle Pq C4=>⟨by rw[Pq,C4];exact aaI,λt ht=>by simp at ht;subst ht;have h0:=ahE t' rfl;exact⟨(hle.hdr t' h0.1).1,by rw[(hle.hdr t' h0.1).2];exact h0.2⟩⟩) alH (λc hc=>by
  show _<(rX _ _ _ _ _).heap.size/\_
  rw[kM]
  rcases cg.1 hc with rfl|hc
  ·exact⟨Dc,.inl (by rw[Aa];simp)⟩
  ·rcases(aes c).1 hc with h|h
   ·have:c∈f2:=by rw[Aa];simp[h]
    exact⟨(mO.fQ c _ (xo c this)).1,.inl this⟩
   ·exact⟨(mO.fQ c _ (Qw c h)).1,.inr (by rw[Qw c h];rfl)⟩)
  ⟨rfl,rfl,rfl,by show _<=(rX _ _ _ _ _).heap.size;rw[kM];exact aS _,λc _ hc=>TK c (λe=>hc (.inr (by rw[Aa,e];simp)))⟩ (λ_ _ _ _ _=>rfl)
 refine⟨undef,_,_,.inr ⟨rfl,dV⟩,?_,hk⟩;rw[hd];exact⟨g2,DW⟩
theorem LP {E:Env}(hE:iY P E.ty){o:Oper}{p x:Operand}(hd:o.dst=none)(ho:o.op=.store T p x)(h:mP C st a w){K:AS->ay R}{ep t:Nat}{y:e.D}{bI:AS}(hT:iP E.ty T=some sh)(hp:st.rd p=.val false [.yP (.loc ep (some (rt,t))) e y i off])(qD:st.take x=(.val gg vs,bI))(hlen:vs.length=sh.ct.size)(gu:off+sh.ct.size<=e.size)(hk:bI.nT rt t e i off vs K=some r):lH P C o a w K r:=by
 obtain⟨g,hg⟩:=h;have sA:=hg.rd p;rw[hp]at sA;obtain⟨_,b,ob,hv,_,_,De⟩:=ee sA;obtain⟨_,n,o0,len,cap,rP,hrt,Hw,hob⟩:=De rt t rfl;obtain⟨g',⟨Gq,CH,Ln,_⟩,mO⟩:=hg.aco x;rw[qD]at mO;unfold AS.nT at hk;split at hk;rename_i t' e' xs gG;split at hk;rename_i hee;subst hee;split at hk
 ·rename_i htt
  subst htt
  simp only at hk
  cases BJ:idx xs i with
  |none=>rw[BJ]at hk;simp[aa]at hk
  |some x0=>
  rw[BJ]at hk
  simp only[aa]at hk
  split at hk
  ·rename_i x' Zl
   obtain⟨n',AY,hx0⟩:=QD BJ
   have JE:n'=n:=by omega
   subst JE
   obtain⟨v0,f2,Ms,gC,Bg,xo,oO⟩:=mO.OT rt gG
   have Ms: .slice (some ⟨b,o0,none⟩) len cap=v0:=by have h1:=Ms t' rfl;have h2:g.hdr t'=.slice (some ⟨b,o0,none⟩) len cap:=hrt;rw[h1,Ln,h2]
   obtain⟨b2,o2,SZ,arr,T',fr,f1,fx,f3,JM,jK,qv,sB,JI,AU,BN⟩:=abv gC hx0
   rw[<-Ms]at JM
   simp only[Value.slice.injEq,aZ,Addr.mk.injEq]at JM
   obtain⟨⟨rfl,rfl,_⟩,_⟩:=JM
   obtain⟨fh,⟨us,eY,Sz⟩,La,Qw⟩:=mO.hands 0 _ _ rfl
   have hul:=Sz.length
   have aer:off+us.length<=e'.size:=by omega
   have Xf:(o0+n'*e'.size)+e'.size<=arr.size:=by rw[cw,eT]at sB;omega
   have ahy:=xu (c:=cH C g' bI w) JI
   obtain⟨k1,k2,k3,hkx,r1,r2,r3⟩:=ahy.mid off us.length
   have ahg:=Bg
   rw[AU]at ahg
   have tZ:=cZ.1 ahg
   have Lm:∀c∈fh,c∉f2:=by intro c hc hm;have h1:=Qw c hc;rw[xo c hm]at h1;cases rt<;>cases h1
   let w':=rX w b (eh arr ((o0+n'*e'.size)+off) us) T' fr
   have Dc:=la jK
   have TK:∀c,c≠b->w'.heap[c]?=w.heap[c]?:=λc hc=>lB hc
   have afD:∀u∈us,u.oneCell'=true:=by
    have Gp:bA (cH C g' bI w) (((arr.toList.drop (o0+n'*e'.size)).take e'.size).take off++us++((arr.toList.drop (o0+n'*e'.size)).take e'.size).drop (off+us.length))
     (dT (cellsOf e' (.own none) x0) off vs) (k1++fh++k3):=by
     have e2:dT (cellsOf e' (.own none) x0) off vs=(cellsOf e' (.own none) x0).take off++vs++(cellsOf e' (.own none) x0).drop (off+us.length):=by simp only[dT];rw[hul]
     rw[e2]
     exact(r1.append Sz).append r3
    obtain⟨q1,q2,hq,Zm,hq2⟩:=vH Gp Zl;have ahp:(((arr.toList.drop (o0+n'*e'.size)).take e'.size).take off++us++((arr.toList.drop (o0+n'*e'.size)).take e'.size).drop (off+us.length)).length=e'.size:=by rw[Gp.length,Dw (by rw[kc];omega),kc]
    rw[bL (by omega)]at Zm;intro u hu;exact eV.lV Zm u (by simp[hu])
   have QB:=AE (P:=P) (w:=w) (hE T sh hT) b ((o0+n'*e'.size)+off) eY (by omega) afD jK qv
   have dV:(execOp a.eval o).run P w=.ok .skip w':=by simp only[execOp,ho,hv,Instr.storeAt,Instr.sureAddr,Sem.run_bind,Sem.run_pure,Result.andThen_ok];show((storeVar T ⟨b,ob+off,none⟩ (a.eval x)).run P w).andThen _=_;rw[hob,QB];rfl
   have hle:(cH C g' bI w).Le ⟨g'.hw,g'.β,C.A,g'.hdr,lJ bI,bI.ep+1,iQ bI,w'⟩:=by
    refine⟨rfl,λ_ ht=>⟨ht,rfl⟩,λk c o u hA hu=>?_,Nat.le_succ _,λ_ hs=>⟨hs,rfl⟩,λhe=>absurd he (Nat.succ_ne_self _)⟩;have Ad:c≠b:=by rintro rfl;exact mO.J0 (xo c (by rw[AU];simp)) k o hA
    rw[World.cell?_of_block (a:=⟨c,o,none⟩) (TK c Ad)];exact hu
   have ahm:∀c∈fx,c≠b:=by rintro c hc rfl;exact tZ.1 (by simp[hc])
   have Gp:bA ⟨g'.hw,g'.β,C.A,g'.hdr,lJ bI,bI.ep+1,iQ bI,w'⟩
    (((eh arr ((o0+n'*e'.size)+off) us).toList.drop (o0+n'*e'.size)).take e'.size) (dT (cellsOf e' (.own none) x0) off vs) (k1++fh++k3):=by
    have e2:dT (cellsOf e' (.own none) x0) off vs=(cellsOf e' (.own none) x0).take off++vs++(cellsOf e' (.own none) x0).drop (off+us.length):=by simp only[dT];rw[hul]
    rw[e2,Fw aer Xf]
    refine((r1.mono hle (λc hc=>⟨TK c (ahm c (by rw[hkx];simp[hc])),rfl⟩)).append
     (Sz.mono hle (λc hc=>⟨TK c (λe=>Lm c hc (by rw[AU,e];simp)),rfl⟩))).append
     (r3.mono hle (λc hc=>⟨TK c (ahm c (by rw[hkx];simp[hc])),rfl⟩))
   obtain⟨q1,q2,hq,Zm,hq2⟩:=vH Gp Zl
   have ahp:(((eh arr ((o0+n'*e'.size)+off) us).toList.drop (o0+n'*e'.size)).take e'.size).length=e'.size:=by rw[Gp.length,Dw (by rw[kc];omega),kc]
   rw[cy (by omega)]at hq2
   have afA:q2=[]:=hq2
   subst afA
   rw[bL (by omega)]at Zm
   rw[bt]at hq
   have aaI:=BN w' us off x' q1 aer (uE Dc) (λc hc=>TK c (λe=>tZ.1 (by rw[<-e];rcases ax.1 hc with k|k<;>simp[k]))) Zm
   have Ac:∀c∈b::(f1++q1++f3),c∈f2\/c∈fh:=by intro c hc;rw[<-hq]at hc;simp only[cg,ax]at hc;rw[AU,hkx];simp only[cg,ax];rcases hc with hc|((hc|((hc|hc)|hc))|hc)<;>simp[hc]
   have CI:(b::(f1++q1++f3)).Nodup:=by
    have VT:=tZ.2;rw[hkx]at VT;rw[aJ]at VT;have m1:=aH.1 VT;have m2:=aH.1 m1.2.1;have m2a:=m2.1;rw[aJ]at m2a;have m3:=aH.1 m2a;have m4:=aH.1 m3.2.1;have inx:∀c,(c∈f1\/c∈k1\/c∈k3\/c∈f3)->c∈f2:=by intro c hc;rw[AU,hkx];simp only[cg,ax];rcases hc with hc|hc|hc|hc<;>simp[hc]
    rw[<-hq];refine cZ.2 ⟨λhm=>?_,?_⟩;simp only[ax]at hm;rcases hm with(hm|((hm|hm)|hm))|hm;exact tZ.1 (by simp[hm]);exact tZ.1 (by rw[hkx];simp[hm]);exact Lm b hm (by rw[AU];simp);exact tZ.1 (by rw[hkx];simp[hm]);exact tZ.1 (by simp[hm]);rw[aJ];refine aH.2 ⟨m1.1,aH.2 ⟨?_,m2.2.1,?_⟩,?_⟩;rw[aJ];refine aH.2 ⟨m3.1,aH.2 ⟨La,m4.2.1,?_⟩,?_⟩;rintro c hc d hd rfl;exact Lm c hc (inx c (by simp[hd]));rintro c hc d hd rfl;rcases ax.1 hd with hd|hd;exact Lm c hd (inx c (by simp[hc]));exact m3.2.2 c hc c (ba _ hd) rfl;rintro c hc d hd rfl;simp only[ax]at hc;rcases hc with(hc|hc)|hc;exact m2.2.2 c (by simp[hc]) c hd rfl;exact Lm c hc (inx c (by simp[hd]));exact m2.2.2 c (by simp[hc]) c hd rfl;rintro c hc d hd rfl;simp only[ax]at hd;rcases hd with((hd|hd)|hd)|hd;exact m1.2.2 c hc c (by simp[hd]) rfl;exact Lm c hd (inx c (by simp[hc]));exact m1.2.2 c hc c (by simp[hd]) rfl;exact m1.2.2 c hc c (by simp[hd]) rfl
   have afi:Fr (λc=>dD (g'.dX c)\/c∈f2) w w':=⟨rfl,rfl,rfl,by show _<=(rX _ _ _ _ _).heap.size;rw[kM];exact aS _,λc _ hc=>TK c (λe=>hc (.inr (by rw[AU,e];simp)))⟩
   obtain⟨g2,DW⟩:=oO w' g'.hw (xs.set n' x') (b::(f1++q1++f3)) aaI CI (λc hc=>by rcases Ac c hc with k|k;exact⟨by show _<(rX _ _ _ _ _).heap.size;rw[kM];exact(mO.fQ c _ (xo c k)).1,.inl k⟩;exact⟨by show _<(rX _ _ _ _ _).heap.size;rw[kM];exact(mO.fQ c _ (Qw c k)).1,.inr (by rw[Qw c k];rfl)⟩) afi (λ_ _ _ _ _=>rfl)
   refine⟨undef,_,_,.inr ⟨rfl,dV⟩,?_,hk⟩
   rw[hd]
   have afk:i.toNat=n':=by omega
   rw[afk]
   exact⟨g2,DW⟩
  ·cases hk
 cases hk;cases hk;rename_i t' i' q e' xs gG;split at hk;rename_i hee;subst hee;split at hk;rename_i hc;obtain⟨rfl,rfl⟩:=hc;simp only at hk;cases BJ:Xg xs i' i with|none=>rw[BJ]at hk;simp[aa]at hk|some x0=>obtain⟨rfl,ams⟩:=Xh BJ;rw[BJ]at hk;simp only[aa]at hk;split at hk;rename_i x' Zl;exact Li hE hd ho hT hlen mO (by rw[hv,hob,dK]) (by rw[Ln];exact hrt) rP gG Zl hk;cases hk
 cases hk;cases hk;cases hk
theorem U7 {E:Env}(hE:iY P E.ty){o:Oper}{p x:Operand}(hd:o.dst=none)(ho:o.op=.store T p x)(h:mP C st a w){K:AS->ay R}(hk:uC E T p x st K=some r):lH P C o a w K r:=by unfold uC at hk;split at hk;rename_i sh s off hT hp;split at hk;rename_i gg vs bI qD;split at hk;rename_i cs jt;split at hk;rename_i hlen;split at hk;rename_i gu;exact LN hE hd ho h hT hp qD jt hlen.1 hlen.2 gu hk;cases hk;cases hk;cases hk;cases hk;rename_i sh ep rt t e y i off hT hp;split at hk;rename_i gg vs bI qD;split at hk;rename_i hc;exact LP hE hd ho h hT hp qD hc.1 hc.2 hk;cases hk;cases hk;cases hk
end Go.Dn
