import Derived.Test.YtbebkmajekhclaaGreatDnOps2
/- Part 3: an element of an owned slice is written. -/
namespace Go.Dn
open Go.RowKit
variable {P:Program} {C:Ctx} {st:AS} {a:Act} {w:World} {R:Type} {r:R}
variable {arr:Array Value} {gg:Bool} {e:CT} {i:Int} {off:Nat} {rt:mi} {sh:Shape} {T:TypeId} {vs:aw AC} {us:jJ}
theorem AD {o:Nat}(h:o+us.length<=arr.size)(j:Nat): (fL arr o us).toList[j]?=if o<=j/\j<o+us.length then us[j-o]? else arr.toList[j]?:=by
 rw[yk us arr o h];have hl:(arr.toList.take o).length=o:=by rw[aV];simp;omega
 by_cases h1:j<o;rw[lI,aR,bp (by omega),eG,aH h1];by_cases h2:j<o+us.length;rw[zip,aR,bw (by omega),hl,bp (by omega)];rw[lI,bw (by rw[ai];omega),ai,hl,bR];congr 1;omega
theorem kE {l:jJ}(p n j:Nat):((l.drop p).take n)[j]?=if j<n then l[p+j]? else none:=by rw[eG];split;rw[bR];rfl
theorem I0 {o0 size n i:Nat}(S7:off+us.length<=size)(hn:o0+(n+1)*size<=arr.size)(hi:i≠n): ((fL arr (o0+n*size+off) us).toList.drop (o0+i*size)).take size=(arr.toList.drop (o0+i*size)).take size:=by
 have En:o0+n*size+size<=arr.size:=by rw[dk,gx]at hn;omega
 apply dj;intro j;rw[kE,kE];split;rename_i hj;rw[AD (by omega),aG];intro hc;rcases Nat.lt_or_gt_of_ne hi with h|h;have:(i+1)*size<=n*size:=de _ h;rw[dk,gx]at this;omega;have:(n+1)*size<=i*size:=de _ h;rw[dk,gx]at this;omega;rfl
theorem Lj {p size:Nat}(S7:off+us.length<=size)(En:p+size<=arr.size): ((fL arr (p+off) us).toList.drop p).take size= ((arr.toList.drop p).take size).take off++us++((arr.toList.drop p).take size).drop (off+us.length):=by
 have hl:((arr.toList.drop p).take size).length=size:=by simp;omega
 have Cg:(((arr.toList.drop p).take size).take off).length=off:=by rw[aV,hl];omega
 apply dj;intro j;rw[kE];by_cases hj:j<size;rw[aH hj,AD (by omega)];by_cases h1:j<off;rw[lI,aR,bp (by omega),eG,aH h1,kE,aH hj];by_cases h2:j<off+us.length;rw[zip,aR,bw (by omega),Cg,bp (by omega)];congr 1;omega;rw[lI,bw (by rw[ai];omega),ai,Cg,bR,kE,show off+us.length+(j-(off+us.length))=j by omega,aH hj];rw[aG hj,bI];simp only[ai,Cg,aM,hl];omega
theorem alH {hw:Nat->Nat}{w:World}{v:Value}{xs:aw e.D}{fp0:fM}(h:gA hw w (.sl e) [v] xs fp0){n:Nat}{x:e.D}(hx:xs[n]?=some x): ∃b o0 cap arr T fr f1 fx f3,v=.slice (some ⟨b,o0,none⟩) xs.length cap/\w.heap[b]?=some (.cells arr T fr)/\rU arr fr/\o0+(n+1)*e.size<=arr.size/\ gA hw w e ((arr.toList.drop (o0+n*e.size)).take e.size) x fx/\fp0=b::(f1++fx++f3)/\ ∀(w':World)(us:jJ)(off:Nat)(x':e.D)(fx':fM),off+us.length<=e.size->w'.heap[b]?=some (.cells (fL arr (o0+n*e.size+off) us) T fr)-> (∀b'∈f1++f3,w'.heap[b']?=w.heap[b']?)->gA hw w' e (((fL arr (o0+n*e.size+off) us).toList.drop (o0+n*e.size)).take e.size) x' fx'-> gA hw w' (.sl e) [v] (xs.set n x') (b::(f1++fx'++f3)):=by
 obtain⟨u,hu,h⟩:=h;simp at hu;subst hu;have NL:n<xs.length:=(ay.1 hx).1;rcases h with⟨⟨_,rfl⟩,rfl,rfl⟩|⟨b,o0,cap,arr,T,fr,fps,rfl,hb,uR,hs,hc,hh,rfl,hl,hr⟩;simp at hx;have SI:fps[n]?=some fps[n]:=al (by omega);have J1:=GI SI;have hm:o0+(n+1)*e.size<=arr.size:=by rw[hs];exact Nat.add_le_add_left (de _ (by omega)) _
 refine⟨b,o0,cap,arr,T,fr,(fps.take n).flatten,fps[n],(fps.drop (n+1)).flatten,rfl,hb,uR,hm,hr n x _ hx SI,by rw[J1.1],?_⟩;intro w' us off x' fx' S7 iy hk ja;refine⟨_,rfl,.inr ⟨b,o0,cap,fL arr (o0+n*e.size+off) us,T,fr,fps.set n fx',by simp,iy,λj hj=>uR j (by rwa[jD]at hj),by rw[jD];exact hs,by simpa using hc,by simpa using hh,by rw[J1.2],by simp[hl],?_⟩⟩;intro i y f hy hf;by_cases uX:i=n;subst uX;rw[bJ]at hy hf;simp only[cw,NL]at hy;simp only[cw]at hf;rw[zip]at hf;simp at hy hf;subst hy;subst hf;exact ja;rw[aE (cl uX)]at hy hf;rw[I0 S7 hm uX];refine gA.mono (hr i y f hy hf) (λb' asa=>⟨hk b' ?_,rfl⟩);have Pd:i<fps.length:=(ay.1 hf).1;have hfi:fps[i]=f:=by rw[al Pd]at hf;simpa using hf
 rcases Nat.lt_or_gt_of_ne uX with hG|hgt;refine bH _ (List.mem_flatten.2 ⟨f,?_,asa⟩);rw[List.mem_take_iff_getElem];exact⟨i,by omega,hfi⟩;refine bz _ (List.mem_flatten.2 ⟨f,?_,asa⟩);rw[List.mem_drop_iff_getElem];exact⟨i-(n+1),by omega,by rw[<-hfi];congr 1;omega⟩
theorem Zr {α:Type}{xs:aw α}{x:α}(h:idx xs i=some x):∃n:Nat,i=n/\xs[n]?=some x:=by cases i with|ofNat n=>exact⟨n,rfl,h⟩|negSucc n=>simp[idx]at h
theorem SX {E:Env}(hE:kG P E.ty){o:Oper}{p x:Operand}(hd:o.dst=none)(ho:o.op=.store T p x){K:AS->aB R}{t':Nat}{cj:AS}{g':Gh}(hT:ko E.ty T=some sh)(hlen:vs.length=sh.ct.size)(qb:fb C g' cj a w [(a.eval x,.val gg vs)]){b o0 len cap n:Nat}{q:aB Nat}{xs:aw e.D}{x':e.D}(hv:a.eval p=.pointer (some ⟨b,o0+n*e.size,none⟩))(hrt:g'.hdr t'=.slice (some ⟨b,o0,none⟩) len cap)(uX:i=n)(jh:cj.ga rt=some (.sl (.gB (some t') i q) e xs))(hof:mW e vs=some (x',[]))(hk:K {cj.gq rt (.sl (.own (some t')) e (xs.set i.toNat x'))with ep:=cj.ep+1}=some r):ox P C o a w K r:=by
 obtain⟨v0,f2,fZ,EA,Cg,sM⟩:=qb.Xw rt (by simp) jh;obtain⟨_,⟨k,hik,ja⟩,asI⟩:=fZ;have hkn:k=n:=by omega
 subst hkn;obtain⟨b2,o2,abV,arr,T',fr,fps,QT,lQ,uR,hs,hc,hh,Dc,hl,S6,hfk,hr⟩:=ja;have lQ:w.heap[b2]?=some (.cells arr T' fr):=lQ;have h1:v0=g'.hdr t':=(asI t' rfl).2;rw[hrt,QT]at h1;simp only[Value.slice.injEq,bu,Addr.mk.injEq]at h1;obtain⟨⟨rfl,rfl,_⟩,_⟩:=h1;obtain⟨fh,⟨us,gD,hrh⟩,SJ,Zk⟩:=qb.hands 0 _ _ rfl;obtain⟨q1,q2,hq,hq1,hq2⟩:=AA hrh hof;have Zf:us.drop e.size=[]:=by cases hd0:us.drop e.size with|nil=>rfl|cons _ _=>rw[hd0]at hq2;exact hq2.elim
 rw[Zf]at hq2;have aqp:q2=[]:=hq2;subst aqp;rw[bD]at hq;subst hq;have hus:us.take e.size=us:=by have:=cR e.size us;rw[Zf,bD]at this;exact this
 rw[hus]at hq1;have hul:us.length=e.size:=gA.length hq1;have wI:o2+(k+1)*e.size<=arr.size:=by rw[hs];exact Nat.add_le_add_left (de _ (by omega)) _
 have ag7:o2+k*e.size+e.size<=arr.size:=by rw[dk,gx]at wI;omega
 let w':=wO w b2 (fL arr (o2+k*e.size+0) us) T' fr;have HX:=nU lQ;have Ui:∀c,c≠b2->w'.heap[c]?=w.heap[c]?:=λc hc=>ou hc;have ax6:=hrh.length;have Zp:=FG (P:=P) (w:=w) (hE T sh hT) b2 (o2+k*e.size+0) gD (by omega) (λu hu=>gA.oL hq1 u hu) lQ uR;have fD:(execOp a.eval o).run P w=.ok .skip w':=by simp only[execOp,ho,hv,Instr.storeAt,Instr.sureAddr,Sem.run_bind,Sem.run_pure,Result.andThen_ok];show((storeVar T ⟨b2,o2+k*e.size+0,none⟩ (a.eval x)).run P w).andThen _=_;rw[Zp];rfl
 have J1:=GI hfk;have yJ:b2∉fps.flatten:=by rw[Dc]at EA;exact(dN.1 EA).1
 have hnf:fps.flatten.Nodup:=by rw[Dc]at EA;exact(dN.1 EA).2
 have S1:∀c∈fh,c∉f2:=by intro c hc hm;have h1:=Zk c hc;rw[Cg c hm]at h1;cases rt<;>cases h1
 have asj:∀c∈fh,c≠b2:=λc hc e=>S1 c hc (by rw[Dc,e];simp);have ao2:∀c,c∈(fps.set k fh).flatten↔c∈fps.flatten\/c∈fh:=by intro c;rw[J1.2,J1.1];simp only[aA,List.not_mem_nil,or_false];constructor;rintro((h|h)|h)<;>simp[h];rintro((h|h)|h)<;>simp[h]
 have akL:gA g'.hw w' (.sl e) [v0] (xs.set k x') (b2::(fps.set k fh).flatten):=by
  refine⟨v0,rfl,.inr ⟨b2,o2,abV,fL arr (o2+k*e.size+0) us,T',fr,fps.set k fh,by rw[QT];simp,zB HX,λj hj=>uR j (by rwa[jD]at hj),by rw[jD];exact hs,by simpa using hc,by rw[az];exact hh,rfl,by simp[hl],?_⟩⟩;intro j y f hy hf;by_cases S4:j=k;subst S4;rw[bJ]at hy hf;simp only[cw,S6]at hy;simp only[cw]at hf;rw[zip]at hf;simp at hy hf;subst hy;subst hf;rw[Lj (by omega) ag7];have e1:((arr.toList.drop (o2+j*e.size)).take e.size).take 0++us++((arr.toList.drop (o2+j*e.size)).take e.size).drop (0+us.length)=us:=by rw[List.take_zero,cv,cI (by simp;omega),bD]
  rw[e1];exact gA.mono hq1 (λc hc=>⟨Ui c (asj c hc),rfl⟩);rw[aE (cl S4)]at hy hf;rw[I0 (by omega) wI S4];refine gA.mono (hr j y f S4 hy hf) (λc hc=>⟨Ui c (λe0=>yJ ?_),rfl⟩);rw[<-e0];exact List.mem_flatten.2 ⟨f,aL hf,hc⟩
 have axu:(b2::(fps.set k fh).flatten).Nodup:=by
  refine dN.2 ⟨λhm=>?_,?_⟩;rcases(ao2 b2).1 hm with h|h;exact yJ h;exact asj b2 h rfl;rw[J1.2];rw[J1.1,bD]at hnf;have m:=aS.1 hnf;have asm:∀c,c∈(fps.take k).flatten\/c∈(fps.drop (k+1)).flatten->c∈f2:=by intro c hc;rw[Dc,J1.1];rcases hc with hc|hc<;>simp[hc]
  refine aS.2 ⟨aS.2 ⟨m.1,SJ,?_⟩,m.2.1,?_⟩;rintro c hc d hd rfl;exact S1 c hd (asm c (.inl hc));rintro c hc d hd rfl;rcases aA.1 hc with hc|hc;exact m.2.2 c hc c hd rfl;exact S1 c hc (asm c (.inr hd))
 have axm:i.toNat=k:=by omega
 rw[axm]at hk
 obtain⟨g2,Jw⟩:=sM w' g'.hw (.sl (.own (some t')) e (xs.set k x')) (b2::(fps.set k fh).flatten) (λc' hle XV It=>⟨by rw[XV,It];exact akL,λt ht=>by simp at ht;subst ht;have h0:=asI t' rfl;exact⟨(hle.hdr t' h0.1).1,by rw[(hle.hdr t' h0.1).2];exact h0.2⟩⟩) axu (λc hc=>by
  show _<(wO _ _ _ _ _).heap.size/\_
  rw[nu]
  rcases bU.1 hc with rfl|hc
  ·exact⟨HX,.inl (by rw[Dc];simp)⟩
  ·rcases(ao2 c).1 hc with h|h
   ·have:c∈f2:=by rw[Dc];simp[h]
    exact⟨(qb.im c _ (Cg c this)).1,.inl this⟩
   ·exact⟨(qb.im c _ (Zk c h)).1,.inr (by rw[Zk c h];rfl)⟩)
  ⟨rfl,rfl,rfl,by show _<=(wO _ _ _ _ _).heap.size;rw[nu];exact bc _,λc _ hc=>Ui c (λe=>hc (.inr (by rw[Dc,e];simp)))⟩ (λ_ _ _ _ _=>rfl)
 refine⟨undef,_,_,.inr ⟨rfl,fD⟩,?_,hk⟩;rw[hd];exact⟨g2,Jw⟩
theorem TA {E:Env}(hE:kG P E.ty){o:Oper}{p x:Operand}(hd:o.dst=none)(ho:o.op=.store T p x)(h:qe C st a w){K:AS->aB R}{ep t:Nat}{y:e.D}{cj:AS}(hT:ko E.ty T=some sh)(hp:st.rd p=.val false [.D3 (.loc ep (some (rt,t))) e y i off])(vm:st.take x=(.val gg vs,cj))(hlen:vs.length=sh.ct.size)(iO:off+sh.ct.size<=e.size)(hk:cj.rr rt t e i off vs K=some r):ox P C o a w K r:=by
 obtain⟨g,hg⟩:=h;have xm:=hg.rd p;rw[hp]at xm;obtain⟨_,b,ob,hv,_,_,IJ⟩:=fH xm;obtain⟨_,n,o0,len,cap,uX,hrt,NL,hob⟩:=IJ rt t rfl;obtain⟨g',⟨Mo,HY,S2,_⟩,qb⟩:=hg.amM x;rw[vm]at qb;unfold AS.rr at hk;split at hk;rename_i t' e' xs jh;split at hk;rename_i hee;subst hee;split at hk
 ·rename_i htt
  subst htt
  simp only at hk
  cases GP:idx xs i with
  |none=>rw[GP]at hk;simp[aa]at hk
  |some x0=>
  rw[GP]at hk
  simp only[aa]at hk
  split at hk
  ·rename_i x' hof
   obtain⟨n',En,hx0⟩:=Zr GP
   have QK:n'=n:=by omega
   subst QK
   obtain⟨v0,f2,Um,ja,EA,Cg,sM⟩:=qb.Xx rt jh
   have Um: .slice (some ⟨b,o0,none⟩) len cap=v0:=by have h1:=Um t' rfl;have h2:g.hdr t'=.slice (some ⟨b,o0,none⟩) len cap:=hrt;rw[h1,S2,h2]
   obtain⟨b2,o2,abV,arr,T',fr,f1,fx,f3,QT,lQ,uR,wI,QP,F5,GU⟩:=alH ja hx0
   rw[<-Um]at QT
   simp only[Value.slice.injEq,bu,Addr.mk.injEq]at QT
   obtain⟨⟨rfl,rfl,_⟩,_⟩:=QT
   obtain⟨fh,⟨us,gD,hrh⟩,SJ,Zk⟩:=qb.hands 0 _ _ rfl
   have hul:=hrh.length
   have ao1:off+us.length<=e'.size:=by omega
   have ag7:(o0+n'*e'.size)+e'.size<=arr.size:=by rw[dk,gx]at wI;omega
   have asC:=Cj (c:=dz C g' cj w) QP
   obtain⟨k1,k2,k3,hkx,r1,r2,r3⟩:=asC.mid off us.length
   have asi:=EA
   rw[F5]at asi
   have yJ:=dN.1 asi
   have S1:∀c∈fh,c∉f2:=by intro c hc hm;have h1:=Zk c hc;rw[Cg c hm]at h1;cases rt<;>cases h1
   let w':=wO w b (fL arr ((o0+n'*e'.size)+off) us) T' fr
   have HX:=nU lQ
   have Ui:∀c,c≠b->w'.heap[c]?=w.heap[c]?:=λc hc=>ou hc
   have aqs:∀u∈us,u.oneCell'=true:=by
    have Mn:bV (dz C g' cj w) (((arr.toList.drop (o0+n'*e'.size)).take e'.size).take off++us++((arr.toList.drop (o0+n'*e'.size)).take e'.size).drop (off+us.length))
     (fu (cellsOf e' (.own none) x0) off vs) (k1++fh++k3):=by
     have e2:fu (cellsOf e' (.own none) x0) off vs=(cellsOf e' (.own none) x0).take off++vs++(cellsOf e' (.own none) x0).drop (off+us.length):=by simp only[fu];rw[hul]
     rw[e2]
     exact(r1.append hrh).append r3
    obtain⟨q1,q2,hq,hq1,hq2⟩:=AA Mn hof;have ass:(((arr.toList.drop (o0+n'*e'.size)).take e'.size).take off++us++((arr.toList.drop (o0+n'*e'.size)).take e'.size).drop (off+us.length)).length=e'.size:=by rw[Mn.length,I7 (by rw[mD];omega),mD]
    rw[ca (by omega)]at hq1;intro u hu;exact gA.oL hq1 u (by simp[hu])
   have Zp:=FG (P:=P) (w:=w) (hE T sh hT) b ((o0+n'*e'.size)+off) gD (by omega) aqs lQ uR
   have fD:(execOp a.eval o).run P w=.ok .skip w':=by simp only[execOp,ho,hv,Instr.storeAt,Instr.sureAddr,Sem.run_bind,Sem.run_pure,Result.andThen_ok];show((storeVar T ⟨b,ob+off,none⟩ (a.eval x)).run P w).andThen _=_;rw[hob,Zp];rfl
   have hle:(dz C g' cj w).Le ⟨g'.hw,g'.β,C.A,g'.hdr,oA cj,cj.ep+1,ku cj,w'⟩:=by
    refine⟨rfl,λ_ ht=>⟨ht,rfl⟩,λk c o u hA hu=>?_,Nat.le_succ _,λ_ hs=>⟨hs,rfl⟩,λhe=>absurd he (Nat.succ_ne_self _)⟩;have Eo:c≠b:=by rintro rfl;exact qb.Re (Cg c (by rw[F5];simp)) k o hA
    rw[World.cell?_of_block (a:=⟨c,o,none⟩) (Ui c Eo)];exact hu
   have asp:∀c∈fx,c≠b:=by rintro c hc rfl;exact yJ.1 (by simp[hc])
   have Mn:bV ⟨g'.hw,g'.β,C.A,g'.hdr,oA cj,cj.ep+1,ku cj,w'⟩
    (((fL arr ((o0+n'*e'.size)+off) us).toList.drop (o0+n'*e'.size)).take e'.size) (fu (cellsOf e' (.own none) x0) off vs) (k1++fh++k3):=by
    have e2:fu (cellsOf e' (.own none) x0) off vs=(cellsOf e' (.own none) x0).take off++vs++(cellsOf e' (.own none) x0).drop (off+us.length):=by simp only[fu];rw[hul]
    rw[e2,Lj ao1 ag7]
    refine((r1.mono hle (λc hc=>⟨Ui c (asp c (by rw[hkx];simp[hc])),rfl⟩)).append
     (hrh.mono hle (λc hc=>⟨Ui c (λe=>S1 c hc (by rw[F5,e];simp)),rfl⟩))).append
     (r3.mono hle (λc hc=>⟨Ui c (asp c (by rw[hkx];simp[hc])),rfl⟩))
   obtain⟨q1,q2,hq,hq1,hq2⟩:=AA Mn hof
   have ass:(((fL arr ((o0+n'*e'.size)+off) us).toList.drop (o0+n'*e'.size)).take e'.size).length=e'.size:=by rw[Mn.length,I7 (by rw[mD];omega),mD]
   rw[cI (by omega)]at hq2
   have aqp:q2=[]:=hq2
   subst aqp
   rw[ca (by omega)]at hq1
   rw[bD]at hq
   have akL:=GU w' us off x' q1 ao1 (zB HX) (λc hc=>Ui c (λe=>yJ.1 (by rw[<-e];rcases aA.1 hc with k|k<;>simp[k]))) hq1
   have D8:∀c∈b::(f1++q1++f3),c∈f2\/c∈fh:=by intro c hc;rw[<-hq]at hc;simp only[bU,aA]at hc;rw[F5,hkx];simp only[bU,aA];rcases hc with hc|((hc|((hc|hc)|hc))|hc)<;>simp[hc]
   have HZ:(b::(f1++q1++f3)).Nodup:=by
    have hx2:=yJ.2;rw[hkx]at hx2;rw[aR]at hx2;have m1:=aS.1 hx2;have m2:=aS.1 m1.2.1;have m2a:=m2.1;rw[aR]at m2a;have m3:=aS.1 m2a;have m4:=aS.1 m3.2.1;have inx:∀c,(c∈f1\/c∈k1\/c∈k3\/c∈f3)->c∈f2:=by intro c hc;rw[F5,hkx];simp only[bU,aA];rcases hc with hc|hc|hc|hc<;>simp[hc]
    rw[<-hq];refine dN.2 ⟨λhm=>?_,?_⟩;simp only[aA]at hm;rcases hm with(hm|((hm|hm)|hm))|hm;exact yJ.1 (by simp[hm]);exact yJ.1 (by rw[hkx];simp[hm]);exact S1 b hm (by rw[F5];simp);exact yJ.1 (by rw[hkx];simp[hm]);exact yJ.1 (by simp[hm]);rw[aR];refine aS.2 ⟨m1.1,aS.2 ⟨?_,m2.2.1,?_⟩,?_⟩;rw[aR];refine aS.2 ⟨m3.1,aS.2 ⟨SJ,m4.2.1,?_⟩,?_⟩;rintro c hc d hd rfl;exact S1 c hc (inx c (by simp[hd]));rintro c hc d hd rfl;rcases aA.1 hd with hd|hd;exact S1 c hd (inx c (by simp[hc]));exact m3.2.2 c hc c (bz _ hd) rfl;rintro c hc d hd rfl;simp only[aA]at hc;rcases hc with(hc|hc)|hc;exact m2.2.2 c (by simp[hc]) c hd rfl;exact S1 c hc (inx c (by simp[hd]));exact m2.2.2 c (by simp[hc]) c hd rfl;rintro c hc d hd rfl;simp only[aA]at hd;rcases hd with((hd|hd)|hd)|hd;exact m1.2.2 c hc c (by simp[hd]) rfl;exact S1 c hd (inx c (by simp[hc]));exact m1.2.2 c hc c (by simp[hd]) rfl;exact m1.2.2 c hc c (by simp[hd]) rfl
   have ap8:Fr (λc=>eQ (g'.fE c)\/c∈f2) w w':=⟨rfl,rfl,rfl,by show _<=(wO _ _ _ _ _).heap.size;rw[nu];exact bc _,λc _ hc=>Ui c (λe=>hc (.inr (by rw[F5,e];simp)))⟩
   obtain⟨g2,Jw⟩:=sM w' g'.hw (xs.set n' x') (b::(f1++q1++f3)) akL HZ (λc hc=>by rcases D8 c hc with k|k;exact⟨by show _<(wO _ _ _ _ _).heap.size;rw[nu];exact(qb.im c _ (Cg c k)).1,.inl k⟩;exact⟨by show _<(wO _ _ _ _ _).heap.size;rw[nu];exact(qb.im c _ (Zk c k)).1,.inr (by rw[Zk c k];rfl)⟩) ap8 (λ_ _ _ _ _=>rfl)
   refine⟨undef,_,_,.inr ⟨rfl,fD⟩,?_,hk⟩
   rw[hd]
   have aqa:i.toNat=n':=by omega
   rw[aqa]
   exact⟨g2,Jw⟩
  ·cases hk
 cases hk;cases hk;rename_i t' i' q e' xs jh;split at hk;rename_i hee;subst hee;split at hk;rename_i hc;obtain⟨rfl,rfl⟩:=hc;simp only at hk;cases GP:ag8 xs i' i with|none=>rw[GP]at hk;simp[aa]at hk|some x0=>obtain⟨rfl,ayd⟩:=ag9 GP;rw[GP]at hk;simp only[aa]at hk;split at hk;rename_i x' hof;exact SX hE hd ho hT hlen qb (by rw[hv,hob,dX]) (by rw[S2];exact hrt) uX jh hof hk;cases hk
 cases hk;cases hk;cases hk
theorem aez {E:Env}(hE:kG P E.ty){o:Oper}{p x:Operand}(hd:o.dst=none)(ho:o.op=.store T p x)(h:qe C st a w){K:AS->aB R}(hk:zw E T p x st K=some r):ox P C o a w K r:=by unfold zw at hk;split at hk;rename_i sh s off hT hp;split at hk;rename_i gg vs cj vm;split at hk;rename_i cs lj;split at hk;rename_i hlen;split at hk;rename_i iO;exact Ty hE hd ho h hT hp vm lj hlen.1 hlen.2 iO hk;cases hk;cases hk;cases hk;cases hk;rename_i sh ep rt t e y i off hT hp;split at hk;rename_i gg vs cj vm;split at hk;rename_i hc;exact TA hE hd ho h hT hp vm hc.1 hc.2 hk;cases hk;cases hk;cases hk
end Go.Dn
