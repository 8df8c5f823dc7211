import Derived.Test.YtinkcmefgciifaaGreatDnOps2
/- Part 3: an element of an owned slice is written. -/
namespace Go.Dn
open Go.RowKit
variable {P:Program} {C:Ctx} {st:AS} {a:Act} {w:World} {R:Type} {r:R}
variable {arr:Array Value} {gg:Bool} {e:CT} {i:Int} {off:Nat} {rt:ky} {sh:Shape} {T:TypeId} {vs:ax AC} {us:iG}
theorem wP {o:Nat}(h:o+us.length<=arr.size)(j:Nat): (eF arr o us).toList[j]?=if o<=j/\j<o+us.length then us[j-o]? else arr.toList[j]?:=by
 rw[uw us arr o h];have hl:(arr.toList.take o).length=o:=by rw[aW];simp;omega
 by_cases h1:j<o;rw[lv,aR,bB (by omega),dC,aH h1];by_cases h2:j<o+us.length;rw[zip,aR,bm (by omega),hl,bB (by omega)];rw[lv,bm (by rw[ai];omega),ai,hl,bH];congr 1;omega
theorem jf {l:iG}(p n j:Nat):((l.drop p).take n)[j]?=if j<n then l[p+j]? else none:=by rw[dC];split;rw[bH];rfl
theorem Em {o0 size n i:Nat}(MC:off+us.length<=size)(hn:o0+(n+1)*size<=arr.size)(hi:i≠n): ((eF arr (o0+n*size+off) us).toList.drop (o0+i*size)).take size=(arr.toList.drop (o0+i*size)).take size:=by
 have BX:o0+n*size+size<=arr.size:=by rw[cB,ff]at hn;omega
 apply cA;intro j;rw[jf,jf];split;rename_i hj;rw[wP (by omega),aI];intro hc;rcases Nat.lt_or_gt_of_ne hi with h|h;have:(i+1)*size<=n*size:=cw _ h;rw[cB,ff]at this;omega;have:(n+1)*size<=i*size:=cw _ h;rw[cB,ff]at this;omega;rfl
theorem Gt {p size:Nat}(MC:off+us.length<=size)(BX:p+size<=arr.size): ((eF arr (p+off) us).toList.drop p).take size= ((arr.toList.drop p).take size).take off++us++((arr.toList.drop p).take size).drop (off+us.length):=by
 have hl:((arr.toList.drop p).take size).length=size:=by simp;omega
 have yn:(((arr.toList.drop p).take size).take off).length=off:=by rw[aW,hl];omega
 apply cA;intro j;rw[jf];by_cases hj:j<size;rw[aH hj,wP (by omega)];by_cases h1:j<off;rw[lv,aR,bB (by omega),dC,aH h1,jf,aH hj];by_cases h2:j<off+us.length;rw[zip,aR,bm (by omega),yn,bB (by omega)];congr 1;omega;rw[lv,bm (by rw[ai];omega),ai,yn,bH,jf,show off+us.length+(j-(off+us.length))=j by omega,aH hj];rw[aI hj,bn];simp only[ai,yn,aM,hl];omega
theorem adG {hw:Nat->Nat}{w:World}{v:Value}{xs:ax e.D}{fp0:fy}(h:fg hw w (.sl e) [v] xs fp0){n:Nat}{x:e.D}(hx:xs[n]?=some x): ∃b o0 cap arr T fr f1 fx f3,v=.slice (some ⟨b,o0,none⟩) xs.length cap/\w.heap[b]?=some (.cells arr T fr)/\px arr fr/\o0+(n+1)*e.size<=arr.size/\ fg hw w e ((arr.toList.drop (o0+n*e.size)).take e.size) x fx/\fp0=b::(f1++fx++f3)/\ ∀(w':World)(us:iG)(off:Nat)(x':e.D)(fx':fy),off+us.length<=e.size->w'.heap[b]?=some (.cells (eF arr (o0+n*e.size+off) us) T fr)-> (∀b'∈f1++f3,w'.heap[b']?=w.heap[b']?)->fg hw w' e (((eF arr (o0+n*e.size+off) us).toList.drop (o0+n*e.size)).take e.size) x' fx'-> fg hw w' (.sl e) [v] (xs.set n x') (b::(f1++fx'++f3)):=by
 obtain⟨u,hu,h⟩:=h;simp at hu;subst hu;have IG:n<xs.length:=(aG.1 hx).1;rcases h with⟨⟨_,rfl⟩,rfl,rfl⟩|⟨b,o0,cap,arr,T,fr,fps,rfl,hb,rz,hs,hc,hh,rfl,hl,hr⟩;simp at hx;have RQ:fps[n]?=some fps[n]:=aq (by omega);have Fk:=Cw RQ;have hm:o0+(n+1)*e.size<=arr.size:=by rw[hs];exact Nat.add_le_add_left (cw _ (by omega)) _
 refine⟨b,o0,cap,arr,T,fr,(fps.take n).flatten,fps[n],(fps.drop (n+1)).flatten,rfl,hb,rz,hm,hr n x _ hx RQ,by rw[Fk.1],?_⟩;intro w' us off x' fx' MC gX hk gO;refine⟨_,rfl,.inr ⟨b,o0,cap,eF arr (o0+n*e.size+off) us,T,fr,fps.set n fx',by simp,gX,λj hj=>rz j (by rwa[iz]at hj),by rw[iz];exact hs,by simpa using hc,by simpa using hh,by rw[Fk.2],by simp[hl],?_⟩⟩;intro i y f hy hf;by_cases ta:i=n;subst ta;rw[br]at hy hf;simp only[bQ,IG]at hy;simp only[bQ]at hf;rw[zip]at hf;simp at hy hf;subst hy;subst hf;exact gO;rw[aN (cO ta)]at hy hf;rw[Em MC hm ta];refine fg.mono (hr i y f hy hf) (λb' ajx=>⟨hk b' ?_,rfl⟩);have MA:i<fps.length:=(aG.1 hf).1;have hfi:fps[i]=f:=by rw[aq MA]at hf;simpa using hf
 rcases Nat.lt_or_gt_of_ne ta with gY|hgt;refine bt _ (List.mem_flatten.2 ⟨f,?_,ajx⟩);rw[List.mem_take_iff_getElem];exact⟨i,by omega,hfi⟩;refine bj _ (List.mem_flatten.2 ⟨f,?_,ajx⟩);rw[List.mem_drop_iff_getElem];exact⟨i-(n+1),by omega,by rw[<-hfi];congr 1;omega⟩
theorem R1 {α:Type}{xs:ax α}{x:α}(h:idx xs i=some x):∃n:Nat,i=n/\xs[n]?=some x:=by cases i with|ofNat n=>exact⟨n,rfl,h⟩|negSucc n=>simp[idx]at h
theorem Mt {E:Env}(hE:jk P E.ty){o:Oper}{p x:Operand}(hd:o.dst=none)(ho:o.op=.store T p x){K:AS->ay R}{t':Nat}{bN:AS}{g':Gh}(hT:ja E.ty T=some sh)(hlen:vs.length=sh.ct.size)(nE:dP C g' bN a w [(a.eval x,.val gg vs)]){b o0 len cap n:Nat}{q:ay Nat}{xs:ax e.D}{x':e.D}(hv:a.eval p=.pointer (some ⟨b,o0+n*e.size,none⟩))(hrt:g'.hdr t'=.slice (some ⟨b,o0,none⟩) len cap)(ta:i=n)(gS:bN.eR rt=some (.sl (.fi (some t') i q) e xs))(hof:ld e vs=some (x',[]))(hk:K {bN.eV rt (.sl (.own (some t')) e (xs.set i.toNat x'))with ep:=bN.ep+1}=some r):mz P C o a w K r:=by
 obtain⟨v0,f2,eQ,Cc,yn,qc⟩:=nE.Qf rt (by simp) gS;obtain⟨_,⟨k,hik,gO⟩,aj4⟩:=eQ;have hkn:k=n:=by omega
 subst hkn;obtain⟨b2,o2,Uu,arr,T',fr,fps,KW,kb,rz,hs,hc,hh,Bf,hl,hkl,hfk,hr⟩:=gO;have kb:w.heap[b2]?=some (.cells arr T' fr):=kb;have h1:v0=g'.hdr t':=(aj4 t' rfl).2;rw[hrt,KW]at h1;simp only[Value.slice.injEq,bc,Addr.mk.injEq]at h1;obtain⟨⟨rfl,rfl,_⟩,_⟩:=h1;obtain⟨fh,⟨us,fj,T6⟩,Mm,RT⟩:=nE.hands 0 _ _ rfl;obtain⟨q1,q2,hq,hq1,hq2⟩:=wN T6 hof;have RO:us.drop e.size=[]:=by cases hd0:us.drop e.size with|nil=>rfl|cons _ _=>rw[hd0]at hq2;exact hq2.elim
 rw[RO]at hq2;have ahS:q2=[]:=hq2;subst ahS;rw[bS]at hq;subst hq;have hus:us.take e.size=us:=by have:=cm e.size us;rw[RO,bS]at this;exact this
 rw[hus]at hq1;have hul:us.length=e.size:=fg.length hq1;have tH:o2+(k+1)*e.size<=arr.size:=by rw[hs];exact Nat.add_le_add_left (cw _ (by omega)) _
 have Zn:o2+k*e.size+e.size<=arr.size:=by rw[cB,ff]at tH;omega
 let w':=th w b2 (eF arr (o2+k*e.size+0) us) T' fr;have Eb:=lP kb;have Vt:∀c,c≠b2->w'.heap[c]?=w.heap[c]?:=λc hc=>mx hc;have ao4:=T6.length;have RZ:=BF (P:=P) (w:=w) (hE T sh hT) b2 (o2+k*e.size+0) fj (by omega) (λu hu=>fg.mN hq1 u hu) kb rz;have ed:(execOp a.eval o).run P w=.ok .skip w':=by simp only[execOp,ho,hv,Instr.storeAt,Instr.sureAddr,Sem.run_bind,Sem.run_pure,Result.andThen_ok];show((storeVar T ⟨b2,o2+k*e.size+0,none⟩ (a.eval x)).run P w).andThen _=_;rw[RZ];rfl
 have Fk:=Cw hfk;have vd:b2∉fps.flatten:=by rw[Bf]at Cc;exact(dc.1 Cc).1
 have hnf:fps.flatten.Nodup:=by rw[Bf]at Cc;exact(dc.1 Cc).2
 have My:∀c∈fh,c∉f2:=by intro c hc hm;have h1:=RT c hc;rw[yn c hm]at h1;cases rt<;>cases h1
 have ajG:∀c∈fh,c≠b2:=λc hc e=>My c hc (by rw[Bf,e];simp);have agI:∀c,c∈(fps.set k fh).flatten↔c∈fps.flatten\/c∈fh:=by intro c;rw[Fk.2,Fk.1];simp only[az,List.not_mem_nil,or_false];constructor;rintro((h|h)|h)<;>simp[h];rintro((h|h)|h)<;>simp[h]
 have acR:fg g'.hw w' (.sl e) [v0] (xs.set k x') (b2::(fps.set k fh).flatten):=by
  refine⟨v0,rfl,.inr ⟨b2,o2,Uu,eF arr (o2+k*e.size+0) us,T',fr,fps.set k fh,by rw[KW];simp,vD Eb,λj hj=>rz j (by rwa[iz]at hj),by rw[iz];exact hs,by simpa using hc,by rw[aC];exact hh,rfl,by simp[hl],?_⟩⟩;intro j y f hy hf;by_cases hjk:j=k;subst hjk;rw[br]at hy hf;simp only[bQ,hkl]at hy;simp only[bQ]at hf;rw[zip]at hf;simp at hy hf;subst hy;subst hf;rw[Gt (by omega) Zn];have e1:((arr.toList.drop (o2+j*e.size)).take e.size).take 0++us++((arr.toList.drop (o2+j*e.size)).take e.size).drop (0+us.length)=us:=by rw[List.take_zero,cG,cC (by simp;omega),bS]
  rw[e1];exact fg.mono hq1 (λc hc=>⟨Vt c (ajG c hc),rfl⟩);rw[aN (cO hjk)]at hy hf;rw[Em (by omega) tH hjk];refine fg.mono (hr j y f hjk hy hf) (λc hc=>⟨Vt c (λe0=>vd ?_),rfl⟩);rw[<-e0];exact List.mem_flatten.2 ⟨f,bp hf,hc⟩
 have aor:(b2::(fps.set k fh).flatten).Nodup:=by
  refine dc.2 ⟨λhm=>?_,?_⟩;rcases(agI b2).1 hm with h|h;exact vd h;exact ajG b2 h rfl;rw[Fk.2];rw[Fk.1,bS]at hnf;have m:=aJ.1 hnf;have ajI:∀c,c∈(fps.take k).flatten\/c∈(fps.drop (k+1)).flatten->c∈f2:=by intro c hc;rw[Bf,Fk.1];rcases hc with hc|hc<;>simp[hc]
  refine aJ.2 ⟨aJ.2 ⟨m.1,Mm,?_⟩,m.2.1,?_⟩;rintro c hc d hd rfl;exact My c hd (ajI c (.inl hc));rintro c hc d hd rfl;rcases az.1 hc with hc|hc;exact m.2.2 c hc c hd rfl;exact My c hc (ajI c (.inr hd))
 have aoj:i.toNat=k:=by omega
 rw[aoj]at hk
 obtain⟨g2,ET⟩:=qc w' g'.hw (.sl (.own (some t')) e (xs.set k x')) (b2::(fps.set k fh).flatten) (λc' hle QL D0=>⟨by rw[QL,D0];exact acR,λt ht=>by simp at ht;subst ht;have h0:=aj4 t' rfl;exact⟨(hle.hdr t' h0.1).1,by rw[(hle.hdr t' h0.1).2];exact h0.2⟩⟩) aor (λc hc=>by
  show _<(th _ _ _ _ _).heap.size/\_
  rw[lz]
  rcases cn.1 hc with rfl|hc
  ·exact⟨Eb,.inl (by rw[Bf];simp)⟩
  ·rcases(agI c).1 hc with h|h
   ·have:c∈f2:=by rw[Bf];simp[h]
    exact⟨(nE.fY c _ (yn c this)).1,.inl this⟩
   ·exact⟨(nE.fY c _ (RT c h)).1,.inr (by rw[RT c h];rfl)⟩)
  ⟨rfl,rfl,rfl,by show _<=(th _ _ _ _ _).heap.size;rw[lz];exact aS _,λc _ hc=>Vt c (λe=>hc (.inr (by rw[Bf,e];simp)))⟩ (λ_ _ _ _ _=>rfl)
 refine⟨undef,_,_,.inr ⟨rfl,ed⟩,?_,hk⟩;rw[hd];exact⟨g2,ET⟩
theorem MZ {E:Env}(hE:jk P E.ty){o:Oper}{p x:Operand}(hd:o.dst=none)(ho:o.op=.store T p x)(h:ij C st a w){K:AS->ay R}{ep t:Nat}{y:e.D}{bN:AS}(hT:ja E.ty T=some sh)(hp:st.rd p=.val false [.zX (.loc ep (some (rt,t))) e y i off])(rK:st.take x=(.val gg vs,bN))(hlen:vs.length=sh.ct.size)(gF:off+sh.ct.size<=e.size)(hk:bN.oR rt t e i off vs K=some r):mz P C o a w K r:=by
 obtain⟨g,hg⟩:=h;have tG:=hg.rd p;rw[hp]at tG;obtain⟨_,b,ob,hv,_,_,Ed⟩:=eC tG;obtain⟨_,n,o0,len,cap,ta,hrt,IG,hob⟩:=Ed rt t rfl;obtain⟨g',⟨Hz,Dz,Mz,_⟩,nE⟩:=hg.aeG x;rw[rK]at nE;unfold AS.oR at hk;split at hk;rename_i t' e' xs gS;split at hk;rename_i hee;subst hee;split at hk
 ·rename_i htt
  subst htt
  simp only at hk
  cases CE:idx xs i with
  |none=>rw[CE]at hk;simp[aa]at hk
  |some x0=>
  rw[CE]at hk
  simp only[aa]at hk
  split at hk
  ·rename_i x' hof
   obtain⟨n',BX,hx0⟩:=R1 CE
   have KO:n'=n:=by omega
   subst KO
   obtain⟨v0,f2,NH,gO,Cc,yn,qc⟩:=nE.Qg rt gS
   have NH: .slice (some ⟨b,o0,none⟩) len cap=v0:=by have h1:=NH t' rfl;have h2:g.hdr t'=.slice (some ⟨b,o0,none⟩) len cap:=hrt;rw[h1,Mz,h2]
   obtain⟨b2,o2,Uu,arr,T',fr,f1,fx,f3,KW,kb,rz,tH,KS,BU,CI⟩:=adG gO hx0
   rw[<-NH]at KW
   simp only[Value.slice.injEq,bc,Addr.mk.injEq]at KW
   obtain⟨⟨rfl,rfl,_⟩,_⟩:=KW
   obtain⟨fh,⟨us,fj,T6⟩,Mm,RT⟩:=nE.hands 0 _ _ rfl
   have hul:=T6.length
   have agH:off+us.length<=e'.size:=by omega
   have Zn:(o0+n'*e'.size)+e'.size<=arr.size:=by rw[cB,ff]at tH;omega
   have ajX:=yt (c:=cM C g' bN w) KS
   obtain⟨k1,k2,k3,hkx,r1,r2,r3⟩:=ajX.mid off us.length
   have ajF:=Cc
   rw[BU]at ajF
   have vd:=dc.1 ajF
   have My:∀c∈fh,c∉f2:=by intro c hc hm;have h1:=RT c hc;rw[yn c hm]at h1;cases rt<;>cases h1
   let w':=th w b (eF arr ((o0+n'*e'.size)+off) us) T' fr
   have Eb:=lP kb
   have Vt:∀c,c≠b->w'.heap[c]?=w.heap[c]?:=λc hc=>mx hc
   have ahV:∀u∈us,u.oneCell'=true:=by
    have Hy:bD (cM C g' bN w) (((arr.toList.drop (o0+n'*e'.size)).take e'.size).take off++us++((arr.toList.drop (o0+n'*e'.size)).take e'.size).drop (off+us.length))
     (dZ (cellsOf e' (.own none) x0) off vs) (k1++fh++k3):=by
     have e2:dZ (cellsOf e' (.own none) x0) off vs=(cellsOf e' (.own none) x0).take off++vs++(cellsOf e' (.own none) x0).drop (off+us.length):=by simp only[dZ];rw[hul]
     rw[e2]
     exact(r1.append T6).append r3
    obtain⟨q1,q2,hq,hq1,hq2⟩:=wN Hy hof;have ajO:(((arr.toList.drop (o0+n'*e'.size)).take e'.size).take off++us++((arr.toList.drop (o0+n'*e'.size)).take e'.size).drop (off+us.length)).length=e'.size:=by rw[Hy.length,Eu (by rw[kK];omega),kK]
    rw[bI (by omega)]at hq1;intro u hu;exact fg.mN hq1 u (by simp[hu])
   have RZ:=BF (P:=P) (w:=w) (hE T sh hT) b ((o0+n'*e'.size)+off) fj (by omega) ahV kb rz
   have ed:(execOp a.eval o).run P w=.ok .skip w':=by simp only[execOp,ho,hv,Instr.storeAt,Instr.sureAddr,Sem.run_bind,Sem.run_pure,Result.andThen_ok];show((storeVar T ⟨b,ob+off,none⟩ (a.eval x)).run P w).andThen _=_;rw[hob,RZ];rfl
   have hle:(cM C g' bN w).Le ⟨g'.hw,g'.β,C.A,g'.hdr,mC bN,bN.ep+1,jb bN,w'⟩:=by
    refine⟨rfl,λ_ ht=>⟨ht,rfl⟩,λk c o u hA hu=>?_,Nat.le_succ _,λ_ hs=>⟨hs,rfl⟩,λhe=>absurd he (Nat.succ_ne_self _)⟩;have Al:c≠b:=by rintro rfl;exact nE.Lc (yn c (by rw[BU];simp)) k o hA
    rw[World.cell?_of_block (a:=⟨c,o,none⟩) (Vt c Al)];exact hu
   have ajL:∀c∈fx,c≠b:=by rintro c hc rfl;exact vd.1 (by simp[hc])
   have Hy:bD ⟨g'.hw,g'.β,C.A,g'.hdr,mC bN,bN.ep+1,jb bN,w'⟩
    (((eF arr ((o0+n'*e'.size)+off) us).toList.drop (o0+n'*e'.size)).take e'.size) (dZ (cellsOf e' (.own none) x0) off vs) (k1++fh++k3):=by
    have e2:dZ (cellsOf e' (.own none) x0) off vs=(cellsOf e' (.own none) x0).take off++vs++(cellsOf e' (.own none) x0).drop (off+us.length):=by simp only[dZ];rw[hul]
    rw[e2,Gt agH Zn]
    refine((r1.mono hle (λc hc=>⟨Vt c (ajL c (by rw[hkx];simp[hc])),rfl⟩)).append
     (T6.mono hle (λc hc=>⟨Vt c (λe=>My c hc (by rw[BU,e];simp)),rfl⟩))).append
     (r3.mono hle (λc hc=>⟨Vt c (ajL c (by rw[hkx];simp[hc])),rfl⟩))
   obtain⟨q1,q2,hq,hq1,hq2⟩:=wN Hy hof
   have ajO:(((eF arr ((o0+n'*e'.size)+off) us).toList.drop (o0+n'*e'.size)).take e'.size).length=e'.size:=by rw[Hy.length,Eu (by rw[kK];omega),kK]
   rw[cC (by omega)]at hq2
   have ahS:q2=[]:=hq2
   subst ahS
   rw[bI (by omega)]at hq1
   rw[bS]at hq
   have acR:=CI w' us off x' q1 agH (vD Eb) (λc hc=>Vt c (λe=>vd.1 (by rw[<-e];rcases az.1 hc with k|k<;>simp[k]))) hq1
   have Bg:∀c∈b::(f1++q1++f3),c∈f2\/c∈fh:=by intro c hc;rw[<-hq]at hc;simp only[cn,az]at hc;rw[BU,hkx];simp only[cn,az];rcases hc with hc|((hc|((hc|hc)|hc))|hc)<;>simp[hc]
   have DA:(b::(f1++q1++f3)).Nodup:=by
    have XM:=vd.2;rw[hkx]at XM;rw[aR]at XM;have m1:=aJ.1 XM;have m2:=aJ.1 m1.2.1;have m2a:=m2.1;rw[aR]at m2a;have m3:=aJ.1 m2a;have m4:=aJ.1 m3.2.1;have inx:∀c,(c∈f1\/c∈k1\/c∈k3\/c∈f3)->c∈f2:=by intro c hc;rw[BU,hkx];simp only[cn,az];rcases hc with hc|hc|hc|hc<;>simp[hc]
    rw[<-hq];refine dc.2 ⟨λhm=>?_,?_⟩;simp only[az]at hm;rcases hm with(hm|((hm|hm)|hm))|hm;exact vd.1 (by simp[hm]);exact vd.1 (by rw[hkx];simp[hm]);exact My b hm (by rw[BU];simp);exact vd.1 (by rw[hkx];simp[hm]);exact vd.1 (by simp[hm]);rw[aR];refine aJ.2 ⟨m1.1,aJ.2 ⟨?_,m2.2.1,?_⟩,?_⟩;rw[aR];refine aJ.2 ⟨m3.1,aJ.2 ⟨Mm,m4.2.1,?_⟩,?_⟩;rintro c hc d hd rfl;exact My c hc (inx c (by simp[hd]));rintro c hc d hd rfl;rcases az.1 hd with hd|hd;exact My c hd (inx c (by simp[hc]));exact m3.2.2 c hc c (bj _ hd) rfl;rintro c hc d hd rfl;simp only[az]at hc;rcases hc with(hc|hc)|hc;exact m2.2.2 c (by simp[hc]) c hd rfl;exact My c hc (inx c (by simp[hd]));exact m2.2.2 c (by simp[hc]) c hd rfl;rintro c hc d hd rfl;simp only[az]at hd;rcases hd with((hd|hd)|hd)|hd;exact m1.2.2 c hc c (by simp[hd]) rfl;exact My c hd (inx c (by simp[hc]));exact m1.2.2 c hc c (by simp[hd]) rfl;exact m1.2.2 c hc c (by simp[hd]) rfl
   have ahA:Fr (λc=>dG (g'.ej c)\/c∈f2) w w':=⟨rfl,rfl,rfl,by show _<=(th _ _ _ _ _).heap.size;rw[lz];exact aS _,λc _ hc=>Vt c (λe=>hc (.inr (by rw[BU,e];simp)))⟩
   obtain⟨g2,ET⟩:=qc w' g'.hw (xs.set n' x') (b::(f1++q1++f3)) acR DA (λc hc=>by rcases Bg c hc with k|k;exact⟨by show _<(th _ _ _ _ _).heap.size;rw[lz];exact(nE.fY c _ (yn c k)).1,.inl k⟩;exact⟨by show _<(th _ _ _ _ _).heap.size;rw[lz];exact(nE.fY c _ (RT c k)).1,.inr (by rw[RT c k];rfl)⟩) ahA (λ_ _ _ _ _=>rfl)
   refine⟨undef,_,_,.inr ⟨rfl,ed⟩,?_,hk⟩
   rw[hd]
   have ahC:i.toNat=n':=by omega
   rw[ahC]
   exact⟨g2,ET⟩
  ·cases hk
 cases hk;cases hk;rename_i t' i' q e' xs gS;split at hk;rename_i hee;subst hee;split at hk;rename_i hc;obtain⟨rfl,rfl⟩:=hc;simp only at hk;cases CE:Zo xs i' i with|none=>rw[CE]at hk;simp[aa]at hk|some x0=>obtain⟨rfl,apa⟩:=Zp CE;rw[CE]at hk;simp only[aa]at hk;split at hk;rename_i x' hof;exact Mt hE hd ho hT hlen nE (by rw[hv,hob,dT]) (by rw[Mz];exact hrt) ta gS hof hk;cases hk
 cases hk;cases hk;cases hk
theorem W6 {E:Env}(hE:jk P E.ty){o:Oper}{p x:Operand}(hd:o.dst=none)(ho:o.op=.store T p x)(h:ij C st a w){K:AS->ay R}(hk:vB E T p x st K=some r):mz P C o a w K r:=by unfold vB at hk;split at hk;rename_i sh s off hT hp;split at hk;rename_i gg vs bN rK;split at hk;rename_i cs jH;split at hk;rename_i hlen;split at hk;rename_i gF;exact MX hE hd ho h hT hp rK jH hlen.1 hlen.2 gF hk;cases hk;cases hk;cases hk;cases hk;rename_i sh ep rt t e y i off hT hp;split at hk;rename_i gg vs bN rK;split at hk;rename_i hc;exact MZ hE hd ho h hT hp rK hc.1 hc.2 hk;cases hk;cases hk;cases hk
end Go.Dn
