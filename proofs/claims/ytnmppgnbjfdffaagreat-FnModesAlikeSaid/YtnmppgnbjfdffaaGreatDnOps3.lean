import Derived.Test.YtnmppgnbjfdffaaGreatDnOps2
/- Part 3: an element of an owned slice is written. -/
namespace Go.Dn
open Go.RowKit
variable {P:Program} {C:Ctx} {st:AS} {a:Act} {w:World} {R:Type} {r:R}
variable {arr:Array Value} {gg:Bool} {e:CT} {i:Int} {off:Nat} {rt:lq} {sh:Shape} {T:TypeId} {vs:ay AC} {us:jz}
theorem xW {o:Nat}(h:o+us.length<=arr.size)(j:Nat): (fy arr o us).toList[j]?=if o<=j/\j<o+us.length then us[j-o]? else arr.toList[j]?:=by
 rw[vG us arr o h];have hl:(arr.toList.take o).length=o:=by rw[aY];simp;omega
 by_cases h1:j<o;rw[kl,aD,bp (by omega),dW,aF h1];by_cases h2:j<o+us.length;rw[zip,aD,bz (by omega),hl,bp (by omega)];rw[kl,bz (by rw[aj];omega),aj,hl,bK];congr 1;omega
theorem jU {l:jz}(p n j:Nat):((l.drop p).take n)[j]?=if j<n then l[p+j]? else none:=by rw[dW];split;rw[bK];rfl
theorem FX {o0 size n i:Nat}(Ov:off+us.length<=size)(hn:o0+(n+1)*size<=arr.size)(hi:i≠n): ((fy arr (o0+n*size+off) us).toList.drop (o0+i*size)).take size=(arr.toList.drop (o0+i*size)).take size:=by
 have Cx:o0+n*size+size<=arr.size:=by rw[cW,fY]at hn;omega
 apply dh;intro j;rw[jU,jU];split;rename_i hj;rw[xW (by omega),aH];intro hc;rcases Nat.lt_or_gt_of_ne hi with h|h;have:(i+1)*size<=n*size:=cO _ h;rw[cW,fY]at this;omega;have:(n+1)*size<=i*size:=cO _ h;rw[cW,fY]at this;omega;rfl
theorem HW {p size:Nat}(Ov:off+us.length<=size)(Cx:p+size<=arr.size): ((fy arr (p+off) us).toList.drop p).take size= ((arr.toList.drop p).take size).take off++us++((arr.toList.drop p).take size).drop (off+us.length):=by
 have hl:((arr.toList.drop p).take size).length=size:=by simp;omega
 have zI:(((arr.toList.drop p).take size).take off).length=off:=by rw[aY,hl];omega
 apply dh;intro j;rw[jU];by_cases hj:j<size;rw[aF hj,xW (by omega)];by_cases h1:j<off;rw[kl,aD,bp (by omega),dW,aF h1,jU,aF hj];by_cases h2:j<off+us.length;rw[zip,aD,bz (by omega),zI,bp (by omega)];congr 1;omega;rw[kl,bz (by rw[aj];omega),aj,zI,bK,jU,show off+us.length+(j-(off+us.length))=j by omega,aF hj];rw[aH hj,bM];simp only[aj,zI,aP,hl];omega
theorem ae7 {hw:Nat->Nat}{w:World}{v:Value}{xs:ay e.D}{fp0:fR}(h:gi hw w (.sl e) [v] xs fp0){n:Nat}{x:e.D}(hx:xs[n]?=some x): ∃b o0 cap arr T fr f1 fx f3,v=.slice (some ⟨b,o0,none⟩) xs.length cap/\w.heap[b]?=some (.cells arr T fr)/\qh arr fr/\o0+(n+1)*e.size<=arr.size/\ gi hw w e ((arr.toList.drop (o0+n*e.size)).take e.size) x fx/\fp0=b::(f1++fx++f3)/\ ∀(w':World)(us:jz)(off:Nat)(x':e.D)(fx':fR),off+us.length<=e.size->w'.heap[b]?=some (.cells (fy arr (o0+n*e.size+off) us) T fr)-> (∀b'∈f1++f3,w'.heap[b']?=w.heap[b']?)->gi hw w' e (((fy arr (o0+n*e.size+off) us).toList.drop (o0+n*e.size)).take e.size) x' fx'-> gi hw w' (.sl e) [v] (xs.set n x') (b::(f1++fx'++f3)):=by
 obtain⟨u,hu,h⟩:=h;simp at hu;subst hu;have J8:n<xs.length:=(aB.1 hx).1;rcases h with⟨⟨_,rfl⟩,rfl,rfl⟩|⟨b,o0,cap,arr,T,fr,fps,rfl,hb,sE,hs,hc,hh,rfl,hl,hr⟩;simp at hx;have TU:fps[n]?=some fps[n]:=aw (by omega);have GP:=D4 TU;have hm:o0+(n+1)*e.size<=arr.size:=by rw[hs];exact Nat.add_le_add_left (cO _ (by omega)) _
 refine⟨b,o0,cap,arr,T,fr,(fps.take n).flatten,fps[n],(fps.drop (n+1)).flatten,rfl,hb,sE,hm,hr n x _ hx TU,by rw[GP.1],?_⟩;intro w' us off x' fx' Ov im hk iL;refine⟨_,rfl,.inr ⟨b,o0,cap,fy arr (o0+n*e.size+off) us,T,fr,fps.set n fx',by simp,im,λj hj=>sE j (by rwa[jt]at hj),by rw[jt];exact hs,by simpa using hc,by simpa using hh,by rw[GP.2],by simp[hl],?_⟩⟩;intro i y f hy hf;by_cases uN:i=n;subst uN;rw[bH]at hy hf;simp only[cc,J8]at hy;simp only[cc]at hf;rw[zip]at hf;simp at hy hf;subst hy;subst hf;exact iL;rw[aJ (cr uN)]at hy hf;rw[FX Ov hm uN];refine gi.mono (hr i y f hy hf) (λb' akY=>⟨hk b' ?_,rfl⟩);have Oq:i<fps.length:=(aB.1 hf).1;have hfi:fps[i]=f:=by rw[aw Oq]at hf;simpa using hf
 rcases Nat.lt_or_gt_of_ne uN with ir|hgt;refine aR _ (List.mem_flatten.2 ⟨f,?_,akY⟩);rw[List.mem_take_iff_getElem];exact⟨i,by omega,hfi⟩;refine bj _ (List.mem_flatten.2 ⟨f,?_,akY⟩);rw[List.mem_drop_iff_getElem];exact⟨i-(n+1),by omega,by rw[<-hfi];congr 1;omega⟩
theorem T6 {α:Type}{xs:ay α}{x:α}(h:idx xs i=some x):∃n:Nat,i=n/\xs[n]?=some x:=by cases i with|ofNat n=>exact⟨n,rfl,h⟩|negSucc n=>simp[idx]at h
theorem Ok {E:Env}(hE:jX P E.ty){o:Oper}{p x:Operand}(hd:o.dst=none)(ho:o.op=.store T p x){K:AS->aC R}{t':Nat}{bX:AS}{g':Gh}(hT:jN E.ty T=some sh)(hlen:vs.length=sh.ct.size)(oB:eK C g' bX a w [(a.eval x,.val gg vs)]){b o0 len cap n:Nat}{q:aC Nat}{xs:ay e.D}{x':e.D}(hv:a.eval p=.pointer (some ⟨b,o0+n*e.size,none⟩))(hrt:g'.hdr t'=.slice (some ⟨b,o0,none⟩) len cap)(uN:i=n)(iP:bX.fK rt=some (.sl (.gj (some t') i q) e xs))(hof:lZ e vs=some (x',[]))(hk:K {bX.fQ rt (.sl (.own (some t')) e (xs.set i.toNat x'))with ep:=bX.ep+1}=some r):nm P C o a w K r:=by
 obtain⟨v0,f2,fJ,DJ,zI,qJ⟩:=oB.Si rt (by simp) iP;obtain⟨_,⟨k,hik,iL⟩,alw⟩:=fJ;have hkn:k=n:=by omega
 subst hkn;obtain⟨b2,o2,Wp,arr,T',fr,fps,MD,kU,sE,hs,hc,hh,B8,hl,Zz,hfk,hr⟩:=iL;have kU:w.heap[b2]?=some (.cells arr T' fr):=kU;have h1:v0=g'.hdr t':=(alw t' rfl).2;rw[hrt,MD]at h1;simp only[Value.slice.injEq,bu,Addr.mk.injEq]at h1;obtain⟨⟨rfl,rfl,_⟩,_⟩:=h1;obtain⟨fh,⟨us,gm,V0⟩,Ob,TX⟩:=oB.hands 0 _ _ rfl;obtain⟨q1,q2,hq,hq1,hq2⟩:=xU V0 hof;have TS:us.drop e.size=[]:=by cases hd0:us.drop e.size with|nil=>rfl|cons _ _=>rw[hd0]at hq2;exact hq2.elim
 rw[TS]at hq2;have ajv:q2=[]:=hq2;subst ajv;rw[bA]at hq;subst hq;have hus:us.take e.size=us:=by have:=cz e.size us;rw[TS,bA]at this;exact this
 rw[hus]at hq1;have hul:us.length=e.size:=gi.length hq1;have uL:o2+(k+1)*e.size<=arr.size:=by rw[hs];exact Nat.add_le_add_left (cO _ (by omega)) _
 have aaV:o2+k*e.size+e.size<=arr.size:=by rw[cW,fY]at uL;omega
 let w':=uh w b2 (fy arr (o2+k*e.size+0) us) T' fr;have FL:=mH kU;have Xf:∀c,c≠b2->w'.heap[c]?=w.heap[c]?:=λc hc=>nh hc;have aqg:=V0.length;have T4:=Dc (P:=P) (w:=w) (hE T sh hT) b2 (o2+k*e.size+0) gm (by omega) (λu hu=>gi.nC hq1 u hu) kU sE;have fb:(execOp a.eval o).run P w=.ok .skip w':=by simp only[execOp,ho,hv,Instr.storeAt,Instr.sureAddr,Sem.run_bind,Sem.run_pure,Result.andThen_ok];show((storeVar T ⟨b2,o2+k*e.size+0,none⟩ (a.eval x)).run P w).andThen _=_;rw[T4];rfl
 have GP:=D4 hfk;have wA:b2∉fps.flatten:=by rw[B8]at DJ;exact(dI.1 DJ).1
 have hnf:fps.flatten.Nodup:=by rw[B8]at DJ;exact(dI.1 DJ).2
 have On:∀c∈fh,c∉f2:=by intro c hc hm;have h1:=TX c hc;rw[zI c hm]at h1;cases rt<;>cases h1
 have ak7:∀c∈fh,c≠b2:=λc hc e=>On c hc (by rw[B8,e];simp);have aim:∀c,c∈(fps.set k fh).flatten↔c∈fps.flatten\/c∈fh:=by intro c;rw[GP.2,GP.1];simp only[ax,List.not_mem_nil,or_false];constructor;rintro((h|h)|h)<;>simp[h];rintro((h|h)|h)<;>simp[h]
 have aej:gi g'.hw w' (.sl e) [v0] (xs.set k x') (b2::(fps.set k fh).flatten):=by
  refine⟨v0,rfl,.inr ⟨b2,o2,Wp,fy arr (o2+k*e.size+0) us,T',fr,fps.set k fh,by rw[MD];simp,wY FL,λj hj=>sE j (by rwa[jt]at hj),by rw[jt];exact hs,by simpa using hc,by rw[aK];exact hh,rfl,by simp[hl],?_⟩⟩;intro j y f hy hf;by_cases RL:j=k;subst RL;rw[bH]at hy hf;simp only[cc,Zz]at hy;simp only[cc]at hf;rw[zip]at hf;simp at hy hf;subst hy;subst hf;rw[HW (by omega) aaV];have e1:((arr.toList.drop (o2+j*e.size)).take e.size).take 0++us++((arr.toList.drop (o2+j*e.size)).take e.size).drop (0+us.length)=us:=by rw[List.take_zero,cC,cB (by simp;omega),bA]
  rw[e1];exact gi.mono hq1 (λc hc=>⟨Xf c (ak7 c hc),rfl⟩);rw[aJ (cr RL)]at hy hf;rw[FX (by omega) uL RL];refine gi.mono (hr j y f RL hy hf) (λc hc=>⟨Xf c (λe0=>wA ?_),rfl⟩);rw[<-e0];exact List.mem_flatten.2 ⟨f,aZ hf,hc⟩
 have apC:(b2::(fps.set k fh).flatten).Nodup:=by
  refine dI.2 ⟨λhm=>?_,?_⟩;rcases(aim b2).1 hm with h|h;exact wA h;exact ak7 b2 h rfl;rw[GP.2];rw[GP.1,bA]at hnf;have m:=aM.1 hnf;have ak9:∀c,c∈(fps.take k).flatten\/c∈(fps.drop (k+1)).flatten->c∈f2:=by intro c hc;rw[B8,GP.1];rcases hc with hc|hc<;>simp[hc]
  refine aM.2 ⟨aM.2 ⟨m.1,Ob,?_⟩,m.2.1,?_⟩;rintro c hc d hd rfl;exact On c hd (ak9 c (.inl hc));rintro c hc d hd rfl;rcases ax.1 hc with hc|hc;exact m.2.2 c hc c hd rfl;exact On c hc (ak9 c (.inr hd))
 have apv:i.toNat=k:=by omega
 rw[apv]at hk
 obtain⟨g2,Gj⟩:=qJ w' g'.hw (.sl (.own (some t')) e (xs.set k x')) (b2::(fps.set k fh).flatten) (λc' hle SP FC=>⟨by rw[SP,FC];exact aej,λt ht=>by simp at ht;subst ht;have h0:=alw t' rfl;exact⟨(hle.hdr t' h0.1).1,by rw[(hle.hdr t' h0.1).2];exact h0.2⟩⟩) apC (λc hc=>by
  show _<(uh _ _ _ _ _).heap.size/\_
  rw[mm]
  rcases cw.1 hc with rfl|hc
  ·exact⟨FL,.inl (by rw[B8];simp)⟩
  ·rcases(aim c).1 hc with h|h
   ·have:c∈f2:=by rw[B8];simp[h]
    exact⟨(oB.gY c _ (zI c this)).1,.inl this⟩
   ·exact⟨(oB.gY c _ (TX c h)).1,.inr (by rw[TX c h];rfl)⟩)
  ⟨rfl,rfl,rfl,by show _<=(uh _ _ _ _ _).heap.size;rw[mm];exact aV _,λc _ hc=>Xf c (λe=>hc (.inr (by rw[B8,e];simp)))⟩ (λ_ _ _ _ _=>rfl)
 refine⟨undef,_,_,.inr ⟨rfl,fb⟩,?_,hk⟩;rw[hd];exact⟨g2,Gj⟩
theorem OV {E:Env}(hE:jX P E.ty){o:Oper}{p x:Operand}(hd:o.dst=none)(ho:o.op=.store T p x)(h:oE C st a w){K:AS->aC R}{ep t:Nat}{y:e.D}{bX:AS}(hT:jN E.ty T=some sh)(hp:st.rd p=.val false [.BA (.loc ep (some (rt,t))) e y i off])(sN:st.take x=(.val gg vs,bX))(hlen:vs.length=sh.ct.size)(iB:off+sh.ct.size<=e.size)(hk:bX.pM rt t e i off vs K=some r):nm P C o a w K r:=by
 obtain⟨g,hg⟩:=h;have uK:=hg.rd p;rw[hp]at uK;obtain⟨_,b,ob,hv,_,_,FN⟩:=fi uK;obtain⟨_,n,o0,len,cap,uN,hrt,J8,hob⟩:=FN rt t rfl;obtain⟨g',⟨IZ,Fb,Oo,_⟩,oB⟩:=hg.af5 x;rw[sN]at oB;unfold AS.pM at hk;split at hk;rename_i t' e' xs iP;split at hk;rename_i hee;subst hee;split at hk
 ·rename_i htt
  subst htt
  simp only at hk
  cases Ed:idx xs i with
  |none=>rw[Ed]at hk;simp[aa]at hk
  |some x0=>
  rw[Ed]at hk
  simp only[aa]at hk
  split at hk
  ·rename_i x' hof
   obtain⟨n',Cx,hx0⟩:=T6 Ed
   have Mv:n'=n:=by omega
   subst Mv
   obtain⟨v0,f2,PF,iL,DJ,zI,qJ⟩:=oB.Sj rt iP
   have PF: .slice (some ⟨b,o0,none⟩) len cap=v0:=by have h1:=PF t' rfl;have h2:g.hdr t'=.slice (some ⟨b,o0,none⟩) len cap:=hrt;rw[h1,Oo,h2]
   obtain⟨b2,o2,Wp,arr,T',fr,f1,fx,f3,MD,kU,sE,uL,Mz,Dw,Eh⟩:=ae7 iL hx0
   rw[<-PF]at MD
   simp only[Value.slice.injEq,bu,Addr.mk.injEq]at MD
   obtain⟨⟨rfl,rfl,_⟩,_⟩:=MD
   obtain⟨fh,⟨us,gm,V0⟩,Ob,TX⟩:=oB.hands 0 _ _ rfl
   have hul:=V0.length
   have ail:off+us.length<=e'.size:=by omega
   have aaV:(o0+n'*e'.size)+e'.size<=arr.size:=by rw[cW,fY]at uL;omega
   have alp:=zM (c:=dk C g' bX w) Mz
   obtain⟨k1,k2,k3,hkx,r1,r2,r3⟩:=alp.mid off us.length
   have ak6:=DJ
   rw[Dw]at ak6
   have wA:=dI.1 ak6
   have On:∀c∈fh,c∉f2:=by intro c hc hm;have h1:=TX c hc;rw[zI c hm]at h1;cases rt<;>cases h1
   let w':=uh w b (fy arr ((o0+n'*e'.size)+off) us) T' fr
   have FL:=mH kU
   have Xf:∀c,c≠b->w'.heap[c]?=w.heap[c]?:=λc hc=>nh hc
   have ajy:∀u∈us,u.oneCell'=true:=by
    have IY:bR (dk C g' bX w) (((arr.toList.drop (o0+n'*e'.size)).take e'.size).take off++us++((arr.toList.drop (o0+n'*e'.size)).take e'.size).drop (off+us.length))
     (eX (cellsOf e' (.own none) x0) off vs) (k1++fh++k3):=by
     have e2:eX (cellsOf e' (.own none) x0) off vs=(cellsOf e' (.own none) x0).take off++vs++(cellsOf e' (.own none) x0).drop (off+us.length):=by simp only[eX];rw[hul]
     rw[e2]
     exact(r1.append V0).append r3
    obtain⟨q1,q2,hq,hq1,hq2⟩:=xU IY hof;have alf:(((arr.toList.drop (o0+n'*e'.size)).take e'.size).take off++us++((arr.toList.drop (o0+n'*e'.size)).take e'.size).drop (off+us.length)).length=e'.size:=by rw[IY.length,F2 (by rw[lG];omega),lG]
    rw[bU (by omega)]at hq1;intro u hu;exact gi.nC hq1 u (by simp[hu])
   have T4:=Dc (P:=P) (w:=w) (hE T sh hT) b ((o0+n'*e'.size)+off) gm (by omega) ajy kU sE
   have fb:(execOp a.eval o).run P w=.ok .skip w':=by simp only[execOp,ho,hv,Instr.storeAt,Instr.sureAddr,Sem.run_bind,Sem.run_pure,Result.andThen_ok];show((storeVar T ⟨b,ob+off,none⟩ (a.eval x)).run P w).andThen _=_;rw[hob,T4];rfl
   have hle:(dk C g' bX w).Le ⟨g'.hw,g'.β,C.A,g'.hdr,nq bX,bX.ep+1,jO bX,w'⟩:=by
    refine⟨rfl,λ_ ht=>⟨ht,rfl⟩,λk c o u hA hu=>?_,Nat.le_succ _,λ_ hs=>⟨hs,rfl⟩,λhe=>absurd he (Nat.succ_ne_self _)⟩;have Cy:c≠b:=by rintro rfl;exact oB.MU (zI c (by rw[Dw];simp)) k o hA
    rw[World.cell?_of_block (a:=⟨c,o,none⟩) (Xf c Cy)];exact hu
   have alc:∀c∈fx,c≠b:=by rintro c hc rfl;exact wA.1 (by simp[hc])
   have IY:bR ⟨g'.hw,g'.β,C.A,g'.hdr,nq bX,bX.ep+1,jO bX,w'⟩
    (((fy arr ((o0+n'*e'.size)+off) us).toList.drop (o0+n'*e'.size)).take e'.size) (eX (cellsOf e' (.own none) x0) off vs) (k1++fh++k3):=by
    have e2:eX (cellsOf e' (.own none) x0) off vs=(cellsOf e' (.own none) x0).take off++vs++(cellsOf e' (.own none) x0).drop (off+us.length):=by simp only[eX];rw[hul]
    rw[e2,HW ail aaV]
    refine((r1.mono hle (λc hc=>⟨Xf c (alc c (by rw[hkx];simp[hc])),rfl⟩)).append
     (V0.mono hle (λc hc=>⟨Xf c (λe=>On c hc (by rw[Dw,e];simp)),rfl⟩))).append
     (r3.mono hle (λc hc=>⟨Xf c (alc c (by rw[hkx];simp[hc])),rfl⟩))
   obtain⟨q1,q2,hq,hq1,hq2⟩:=xU IY hof
   have alf:(((fy arr ((o0+n'*e'.size)+off) us).toList.drop (o0+n'*e'.size)).take e'.size).length=e'.size:=by rw[IY.length,F2 (by rw[lG];omega),lG]
   rw[cB (by omega)]at hq2
   have ajv:q2=[]:=hq2
   subst ajv
   rw[bU (by omega)]at hq1
   rw[bA]at hq
   have aej:=Eh w' us off x' q1 ail (wY FL) (λc hc=>Xf c (λe=>wA.1 (by rw[<-e];rcases ax.1 hc with k|k<;>simp[k]))) hq1
   have AF:∀c∈b::(f1++q1++f3),c∈f2\/c∈fh:=by intro c hc;rw[<-hq]at hc;simp only[cw,ax]at hc;rw[Dw,hkx];simp only[cw,ax];rcases hc with hc|((hc|((hc|hc)|hc))|hc)<;>simp[hc]
   have Fc:(b::(f1++q1++f3)).Nodup:=by
    have ZC:=wA.2;rw[hkx]at ZC;rw[aD]at ZC;have m1:=aM.1 ZC;have m2:=aM.1 m1.2.1;have m2a:=m2.1;rw[aD]at m2a;have m3:=aM.1 m2a;have m4:=aM.1 m3.2.1;have inx:∀c,(c∈f1\/c∈k1\/c∈k3\/c∈f3)->c∈f2:=by intro c hc;rw[Dw,hkx];simp only[cw,ax];rcases hc with hc|hc|hc|hc<;>simp[hc]
    rw[<-hq];refine dI.2 ⟨λhm=>?_,?_⟩;simp only[ax]at hm;rcases hm with(hm|((hm|hm)|hm))|hm;exact wA.1 (by simp[hm]);exact wA.1 (by rw[hkx];simp[hm]);exact On b hm (by rw[Dw];simp);exact wA.1 (by rw[hkx];simp[hm]);exact wA.1 (by simp[hm]);rw[aD];refine aM.2 ⟨m1.1,aM.2 ⟨?_,m2.2.1,?_⟩,?_⟩;rw[aD];refine aM.2 ⟨m3.1,aM.2 ⟨Ob,m4.2.1,?_⟩,?_⟩;rintro c hc d hd rfl;exact On c hc (inx c (by simp[hd]));rintro c hc d hd rfl;rcases ax.1 hd with hd|hd;exact On c hd (inx c (by simp[hc]));exact m3.2.2 c hc c (bj _ hd) rfl;rintro c hc d hd rfl;simp only[ax]at hc;rcases hc with(hc|hc)|hc;exact m2.2.2 c (by simp[hc]) c hd rfl;exact On c hc (inx c (by simp[hd]));exact m2.2.2 c (by simp[hc]) c hd rfl;rintro c hc d hd rfl;simp only[ax]at hd;rcases hd with((hd|hd)|hd)|hd;exact m1.2.2 c hc c (by simp[hd]) rfl;exact On c hd (inx c (by simp[hc]));exact m1.2.2 c hc c (by simp[hd]) rfl;exact m1.2.2 c hc c (by simp[hd]) rfl
   have aje:Fr (λc=>eE (g'.fe c)\/c∈f2) w w':=⟨rfl,rfl,rfl,by show _<=(uh _ _ _ _ _).heap.size;rw[mm];exact aV _,λc _ hc=>Xf c (λe=>hc (.inr (by rw[Dw,e];simp)))⟩
   obtain⟨g2,Gj⟩:=qJ w' g'.hw (xs.set n' x') (b::(f1++q1++f3)) aej Fc (λc hc=>by rcases AF c hc with k|k;exact⟨by show _<(uh _ _ _ _ _).heap.size;rw[mm];exact(oB.gY c _ (zI c k)).1,.inl k⟩;exact⟨by show _<(uh _ _ _ _ _).heap.size;rw[mm];exact(oB.gY c _ (TX c k)).1,.inr (by rw[TX c k];rfl)⟩) aje (λ_ _ _ _ _=>rfl)
   refine⟨undef,_,_,.inr ⟨rfl,fb⟩,?_,hk⟩
   rw[hd]
   have ajg:i.toNat=n':=by omega
   rw[ajg]
   exact⟨g2,Gj⟩
  ·cases hk
 cases hk;cases hk;rename_i t' i' q e' xs iP;split at hk;rename_i hee;subst hee;split at hk;rename_i hc;obtain⟨rfl,rfl⟩:=hc;simp only at hk;cases Ed:aaW xs i' i with|none=>rw[Ed]at hk;simp[aa]at hk|some x0=>obtain⟨rfl,aqn⟩:=aaX Ed;rw[Ed]at hk;simp only[aa]at hk;split at hk;rename_i x' hof;exact Ok hE hd ho hT hlen oB (by rw[hv,hob,dX]) (by rw[Oo];exact hrt) uN iP hof hk;cases hk
 cases hk;cases hk;cases hk
theorem YD {E:Env}(hE:jX P E.ty){o:Oper}{p x:Operand}(hd:o.dst=none)(ho:o.op=.store T p x)(h:oE C st a w){K:AS->aC R}(hk:wT E T p x st K=some r):nm P C o a w K r:=by unfold wT at hk;split at hk;rename_i sh s off hT hp;split at hk;rename_i gg vs bX sN;split at hk;rename_i cs kC;split at hk;rename_i hlen;split at hk;rename_i iB;exact OT hE hd ho h hT hp sN kC hlen.1 hlen.2 iB hk;cases hk;cases hk;cases hk;cases hk;rename_i sh ep rt t e y i off hT hp;split at hk;rename_i gg vs bX sN;split at hk;rename_i hc;exact OV hE hd ho h hT hp sN hc.1 hc.2 hk;cases hk;cases hk;cases hk
end Go.Dn
