import Derived.Test.YtgbaemfepmabgaaGreatDnOps2
/- Part 3: an element of an owned slice is written. -/
namespace Go.Dn
open Go.RowKit
variable {P:Program} {C:Ctx} {st:AS} {a:Act} {w:World} {R:Type} {r:R}
variable {arr:Array Value} {gg:Bool} {e:CT} {i:Int} {off:Nat} {rt:kG} {sh:Shape} {T:TypeId} {vs:aw AC} {us:iS}
theorem xR {o:Nat}(h:o+us.length<=arr.size)(j:Nat): (eX arr o us).toList[j]?=if o<=j/\j<o+us.length then us[j-o]? else arr.toList[j]?:=by
 rw[vF us arr o h];have hl:(arr.toList.take o).length=o:=by rw[aV];simp;omega
 by_cases h1:j<o;rw[nf,aZ,bD (by omega),dV,aE h1];by_cases h2:j<o+us.length;rw[zip,aZ,bA (by omega),hl,bD (by omega)];rw[nf,bA (by rw[ai];omega),ai,hl,bU];congr 1;omega
theorem jx {l:iS}(p n j:Nat):((l.drop p).take n)[j]?=if j<n then l[p+j]? else none:=by rw[dV];split;rw[bU];rfl
theorem E4 {o0 size n i:Nat}(hoff:off+us.length<=size)(hn:o0+(n+1)*size<=arr.size)(hi:i≠n): ((eX arr (o0+n*size+off) us).toList.drop (o0+i*size)).take size=(arr.toList.drop (o0+i*size)).take size:=by
 have hn':o0+n*size+size<=arr.size:=by rw[cM,fK]at hn;omega
 apply cL;intro j;rw[jx,jx];split;rename_i hj;rw[xR (by omega),aD];intro hc;rcases Nat.lt_or_gt_of_ne hi with h|h;have:(i+1)*size<=n*size:=cH _ h;rw[cM,fK]at this;omega;have:(n+1)*size<=i*size:=cH _ h;rw[cM,fK]at this;omega;rfl
theorem G5 {p size:Nat}(hoff:off+us.length<=size)(hn':p+size<=arr.size): ((eX arr (p+off) us).toList.drop p).take size= ((arr.toList.drop p).take size).take off++us++((arr.toList.drop p).take size).drop (off+us.length):=by
 have hl:((arr.toList.drop p).take size).length=size:=by simp;omega
 have hl2:(((arr.toList.drop p).take size).take off).length=off:=by rw[aV,hl];omega
 apply cL;intro j;rw[jx];by_cases hj:j<size;rw[aE hj,xR (by omega)];by_cases h1:j<off;rw[nf,aZ,bD (by omega),dV,aE h1,jx,aE hj];by_cases h2:j<off+us.length;rw[zip,aZ,bA (by omega),hl2,bD (by omega)];congr 1;omega;rw[nf,bA (by rw[ai];omega),ai,hl2,bU,jx,show off+us.length+(j-(off+us.length))=j by omega,aE hj];rw[aD hj,bG];simp only[ai,hl2,aK,hl];omega
theorem aer {hw:Nat->Nat}{w:World}{v:Value}{xs:aw e.D}{fp0:fu}(h:fM hw w (.sl e) [v] xs fp0){n:Nat}{x:e.D}(hx:xs[n]?=some x): ∃b o0 cap arr T fr f1 fx f3,v=.slice (some ⟨b,o0,none⟩) xs.length cap/\w.heap[b]?=some (.cells arr T fr)/\pS arr fr/\o0+(n+1)*e.size<=arr.size/\ fM hw w e ((arr.toList.drop (o0+n*e.size)).take e.size) x fx/\fp0=b::(f1++fx++f3)/\ ∀(w':World)(us:iS)(off:Nat)(x':e.D)(fx':fu),off+us.length<=e.size->w'.heap[b]?=some (.cells (eX arr (o0+n*e.size+off) us) T fr)-> (∀b'∈f1++f3,w'.heap[b']?=w.heap[b']?)->fM hw w' e (((eX arr (o0+n*e.size+off) us).toList.drop (o0+n*e.size)).take e.size) x' fx'-> fM hw w' (.sl e) [v] (xs.set n x') (b::(f1++fx'++f3)):=by
 obtain⟨u,hu,h⟩:=h;simp at hu;subst hu;have hnl:n<xs.length:=(aC.1 hx).1;rcases h with⟨⟨_,rfl⟩,rfl,rfl⟩|⟨b,o0,cap,arr,T,fr,fps,rfl,hb,hth,hs,hc,hh,rfl,hl,hr⟩;simp at hx;have hfn:fps[n]?=some fps[n]:=al (by omega);have hfs:=Dp hfn;have hm:o0+(n+1)*e.size<=arr.size:=by rw[hs];exact Nat.add_le_add_left (cH _ (by omega)) _
 refine⟨b,o0,cap,arr,T,fr,(fps.take n).flatten,fps[n],(fps.drop (n+1)).flatten,rfl,hb,hth,hm,hr n x _ hx hfn,by rw[hfs.1],?_⟩;intro w' us off x' fx' hoff hb' hk hown;refine⟨_,rfl,.inr ⟨b,o0,cap,eX arr (o0+n*e.size+off) us,T,fr,fps.set n fx',by simp,hb',λj hj=>hth j (by rwa[iP]at hj),by rw[iP];exact hs,by simpa using hc,by simpa using hh,by rw[hfs.2],by simp[hl],?_⟩⟩;intro i y f hy hf;by_cases hin:i=n;subst hin;rw[bH]at hy hf;simp only[cg,hnl]at hy;simp only[cg]at hf;rw[zip]at hf;simp at hy hf;subst hy;subst hf;exact hown;rw[aP (cR hin)]at hy hf;rw[E4 hoff hm hin];refine fM.mono (hr i y f hy hf) (λb' hb''=>⟨hk b' ?_,rfl⟩);have hil:i<fps.length:=(aC.1 hf).1;have hfi:fps[i]=f:=by rw[al hil]at hf;simpa using hf
 rcases Nat.lt_or_gt_of_ne hin with hlt|hgt;refine bI _ (List.mem_flatten.2 ⟨f,?_,hb''⟩);rw[List.mem_take_iff_getElem];exact⟨i,by omega,hfi⟩;refine bw _ (List.mem_flatten.2 ⟨f,?_,hb''⟩);rw[List.mem_drop_iff_getElem];exact⟨i-(n+1),by omega,by rw[<-hfi];congr 1;omega⟩
theorem TE {α:Type}{xs:aw α}{x:α}(h:idx xs i=some x):∃n:Nat,i=n/\xs[n]?=some x:=by cases i with|ofNat n=>exact⟨n,rfl,h⟩|negSucc n=>simp[idx]at h
theorem NA {E:Env}(hE:jA P E.ty){o:Oper}{p x:Operand}(hd:o.dst=none)(ho:o.op=.store T p x){K:AS->az R}{t':Nat}{st':AS}{g':Gh}(hT:jn E.ty T=some sh)(hlen:vs.length=sh.ct.size)(hg':ez C g' st' a w [(a.eval x,.val gg vs)]){b o0 len cap n:Nat}{q:az Nat}{xs:aw e.D}{x':e.D}(hv:a.eval p=.pointer (some ⟨b,o0+n*e.size,none⟩))(hrt:g'.hdr t'=.slice (some ⟨b,o0,none⟩) len cap)(hin:i=n)(hget:st'.fD rt=some (.sl (.holed (some t') i q) e xs))(hof:lv e vs=some (x',[]))(hk:K {st'.fH rt (.sl (.own (some t')) e (xs.set i.toNat x'))with ep:=st'.ep+1}=some r):mL P C o a w K r:=by
 obtain⟨v0,f2,hrel,hn2,hl2,hfin⟩:=hg'.RQ rt (by simp) hget;obtain⟨_,⟨k,hik,hown⟩,htag⟩:=hrel;have hkn:k=n:=by omega
 subst hkn;obtain⟨b2,o2,cap2,arr,T',fr,fps,hv0,hblk,hth,hs,hc,hh,hf2,hl,hkl,hfk,hr⟩:=hown;have hblk:w.heap[b2]?=some (.cells arr T' fr):=hblk;have h1:v0=g'.hdr t':=(htag t' rfl).2;rw[hrt,hv0]at h1;simp only[Value.slice.injEq,br,Addr.mk.injEq]at h1;obtain⟨⟨rfl,rfl,_⟩,_⟩:=h1;obtain⟨fh,⟨us,hcut,hrh⟩,hnh,hlh⟩:=hg'.hands 0 _ _ rfl;obtain⟨q1,q2,hq,hq1,hq2⟩:=xP hrh hof;have hdrop:us.drop e.size=[]:=by cases hd0:us.drop e.size with|nil=>rfl|cons _ _=>rw[hd0]at hq2;exact hq2.elim
 rw[hdrop]at hq2;have hq2':q2=[]:=hq2;subst hq2';rw[bK]at hq;subst hq;have hus:us.take e.size=us:=by have:=cD e.size us;rw[hdrop,bK]at this;exact this
 rw[hus]at hq1;have hul:us.length=e.size:=fM.length hq1;have hsz:o2+(k+1)*e.size<=arr.size:=by rw[hs];exact Nat.add_le_add_left (cH _ (by omega)) _
 have hsz':o2+k*e.size+e.size<=arr.size:=by rw[cM,fK]at hsz;omega
 let w':=uj w b2 (eX arr (o2+k*e.size+0) us) T' fr;have hbs:=mq hblk;have hkb:∀c,c≠b2->w'.heap[c]?=w.heap[c]?:=λc hc=>mI hc;have hlen':=hrh.length;have hrunS:=Cz (P:=P) (w:=w) (hE T sh hT) b2 (o2+k*e.size+0) hcut (by omega) (λu hu=>fM.mZ hq1 u hu) hblk hth;have hrun:(execOp a.eval o).run P w=.ok .skip w':=by simp only[execOp,ho,hv,Instr.storeAt,Instr.sureAddr,Sem.run_bind,Sem.run_pure,Result.andThen_ok];show((storeVar T ⟨b2,o2+k*e.size+0,none⟩ (a.eval x)).run P w).andThen _=_;rw[hrunS];rfl
 have hfs:=Dp hfk;have hnb:b2∉fps.flatten:=by rw[hf2]at hn2;exact(dA.1 hn2).1
 have hnf:fps.flatten.Nodup:=by rw[hf2]at hn2;exact(dA.1 hn2).2
 have hfh2:∀c∈fh,c∉f2:=by intro c hc hm;have h1:=hlh c hc;rw[hl2 c hm]at h1;cases rt<;>cases h1
 have hfhb:∀c∈fh,c≠b2:=λc hc e=>hfh2 c hc (by rw[hf2,e];simp);have hflat:∀c,c∈(fps.set k fh).flatten↔c∈fps.flatten\/c∈fh:=by intro c;rw[hfs.2,hfs.1];simp only[ay,List.not_mem_nil,or_false];constructor;rintro((h|h)|h)<;>simp[h];rintro((h|h)|h)<;>simp[h]
 have hownN:fM g'.hw w' (.sl e) [v0] (xs.set k x') (b2::(fps.set k fh).flatten):=by
  refine⟨v0,rfl,.inr ⟨b2,o2,cap2,eX arr (o2+k*e.size+0) us,T',fr,fps.set k fh,by rw[hv0];simp,wM hbs,λj hj=>hth j (by rwa[iP]at hj),by rw[iP];exact hs,by simpa using hc,by rw[aB];exact hh,rfl,by simp[hl],?_⟩⟩;intro j y f hy hf;by_cases hjk:j=k;subst hjk;rw[bH]at hy hf;simp only[cg,hkl]at hy;simp only[cg]at hf;rw[zip]at hf;simp at hy hf;subst hy;subst hf;rw[G5 (by omega) hsz'];have e1:((arr.toList.drop (o2+j*e.size)).take e.size).take 0++us++((arr.toList.drop (o2+j*e.size)).take e.size).drop (0+us.length)=us:=by rw[List.take_zero,cj,df (by simp;omega),bK]
  rw[e1];exact fM.mono hq1 (λc hc=>⟨hkb c (hfhb c hc),rfl⟩);rw[aP (cR hjk)]at hy hf;rw[E4 (by omega) hsz hjk];refine fM.mono (hr j y f hjk hy hf) (λc hc=>⟨hkb c (λe0=>hnb ?_),rfl⟩);rw[<-e0];exact List.mem_flatten.2 ⟨f,aX hf,hc⟩
 have hndN:(b2::(fps.set k fh).flatten).Nodup:=by
  refine dA.2 ⟨λhm=>?_,?_⟩;rcases(hflat b2).1 hm with h|h;exact hnb h;exact hfhb b2 h rfl;rw[hfs.2];rw[hfs.1,bK]at hnf;have m:=aO.1 hnf;have hin2:∀c,c∈(fps.take k).flatten\/c∈(fps.drop (k+1)).flatten->c∈f2:=by intro c hc;rw[hf2,hfs.1];rcases hc with hc|hc<;>simp[hc]
  refine aO.2 ⟨aO.2 ⟨m.1,hnh,?_⟩,m.2.1,?_⟩;rintro c hc d hd rfl;exact hfh2 c hd (hin2 c (.inl hc));rintro c hc d hd rfl;rcases ay.1 hc with hc|hc;exact m.2.2 c hc c hd rfl;exact hfh2 c hc (hin2 c (.inr hd))
 have hik':i.toNat=k:=by omega
 rw[hik']at hk
 obtain⟨g2,hg2⟩:=hfin w' g'.hw (.sl (.own (some t')) e (xs.set k x')) (b2::(fps.set k fh).flatten) (λc' hle hcw hchw=>⟨by rw[hcw,hchw];exact hownN,λt ht=>by simp at ht;subst ht;have h0:=htag t' rfl;exact⟨(hle.hdr t' h0.1).1,by rw[(hle.hdr t' h0.1).2];exact h0.2⟩⟩) hndN (λc hc=>by
  show _<(uj _ _ _ _ _).heap.size/\_
  rw[lM]
  rcases bQ.1 hc with rfl|hc
  ·exact⟨hbs,.inl (by rw[hf2];simp)⟩
  ·rcases(hflat c).1 hc with h|h
   ·have:c∈f2:=by rw[hf2];simp[h]
    exact⟨(hg'.labs c _ (hl2 c this)).1,.inl this⟩
   ·exact⟨(hg'.labs c _ (hlh c h)).1,.inr (by rw[hlh c h];rfl)⟩)
  ⟨rfl,rfl,rfl,by show _<=(uj _ _ _ _ _).heap.size;rw[lM];exact bh _,λc _ hc=>hkb c (λe=>hc (.inr (by rw[hf2,e];simp)))⟩ (λ_ _ _ _ _=>rfl)
 refine⟨undef,_,_,.inr ⟨rfl,hrun⟩,?_,hk⟩;rw[hd];exact⟨g2,hg2⟩
theorem NY {E:Env}(hE:jA P E.ty){o:Oper}{p x:Operand}(hd:o.dst=none)(ho:o.op=.store T p x)(h:oa C st a w){K:AS->az R}{ep t:Nat}{y:e.D}{st':AS}(hT:jn E.ty T=some sh)(hp:st.rd p=.val false [.elt (.loc ep (some (rt,t))) e y i off])(htk:st.take x=(.val gg vs,st'))(hlen:vs.length=sh.ct.size)(hfit:off+sh.ct.size<=e.size)(hk:st'.pz rt t e i off vs K=some r):mL P C o a w K r:=by
 obtain⟨g,hg⟩:=h;have hpv:=hg.rd p;rw[hp]at hpv;obtain⟨_,b,ob,hv,_,_,hroot⟩:=eU hpv;obtain⟨_,n,o0,len,cap,hin,hrt,hnl,hob⟩:=hroot rt t rfl;obtain⟨g',⟨hβ,hhw,hhdr,_⟩,hg'⟩:=hg.agl x;rw[htk]at hg';unfold AS.pz at hk;split at hk;rename_i t' e' xs hget;split at hk;rename_i hee;subst hee;split at hk
 ·rename_i htt
  subst htt
  simp only at hk
  cases hix:idx xs i with
  |none=>rw[hix]at hk;simp[aa]at hk
  |some x0=>
  rw[hix]at hk
  simp only[aa]at hk
  split at hk
  ·rename_i x' hof
   obtain⟨n',hn',hx0⟩:=TE hix
   have hnn:n'=n:=by omega
   subst hnn
   obtain⟨v0,f2,hrv,hown,hn2,hl2,hfin⟩:=hg'.RR rt hget
   have hrv: .slice (some ⟨b,o0,none⟩) len cap=v0:=by have h1:=hrv t' rfl;have h2:g.hdr t'=.slice (some ⟨b,o0,none⟩) len cap:=hrt;rw[h1,hhdr,h2]
   obtain⟨b2,o2,cap2,arr,T',fr,f1,fx,f3,hv0,hblk,hth,hsz,hownx,hfp,hset⟩:=aer hown hx0
   rw[<-hrv]at hv0
   simp only[Value.slice.injEq,br,Addr.mk.injEq]at hv0
   obtain⟨⟨rfl,rfl,_⟩,_⟩:=hv0
   obtain⟨fh,⟨us,hcut,hrh⟩,hnh,hlh⟩:=hg'.hands 0 _ _ rfl
   have hul:=hrh.length
   have hfitu:off+us.length<=e'.size:=by omega
   have hsz':(o0+n'*e'.size)+e'.size<=arr.size:=by rw[cM,fK]at hsz;omega
   have hrelx:=zu (c:=dc C g' st' w) hownx
   obtain⟨k1,k2,k3,hkx,r1,r2,r3⟩:=hrelx.mid off us.length
   have hf2n:=hn2
   rw[hfp]at hf2n
   have hnb:=dA.1 hf2n
   have hfh2:∀c∈fh,c∉f2:=by intro c hc hm;have h1:=hlh c hc;rw[hl2 c hm]at h1;cases rt<;>cases h1
   let w':=uj w b (eX arr ((o0+n'*e'.size)+off) us) T' fr
   have hbs:=mq hblk
   have hkb:∀c,c≠b->w'.heap[c]?=w.heap[c]?:=λc hc=>mI hc
   have hsolid:∀u∈us,u.oneCell'=true:=by
    have hsp:bR (dc C g' st' w) (((arr.toList.drop (o0+n'*e'.size)).take e'.size).take off++us++((arr.toList.drop (o0+n'*e'.size)).take e'.size).drop (off+us.length))
     (eQ (cellsOf e' (.own none) x0) off vs) (k1++fh++k3):=by
     have e2:eQ (cellsOf e' (.own none) x0) off vs=(cellsOf e' (.own none) x0).take off++vs++(cellsOf e' (.own none) x0).drop (off+us.length):=by simp only[eQ];rw[hul]
     rw[e2]
     exact(r1.append hrh).append r3
    obtain⟨q1,q2,hq,hq1,hq2⟩:=xP hsp hof;have hlen2:(((arr.toList.drop (o0+n'*e'.size)).take e'.size).take off++us++((arr.toList.drop (o0+n'*e'.size)).take e'.size).drop (off+us.length)).length=e'.size:=by rw[hsp.length,E9 (by rw[kS];omega),kS]
    rw[cd (by omega)]at hq1;intro u hu;exact fM.mZ hq1 u (by simp[hu])
   have hrunS:=Cz (P:=P) (w:=w) (hE T sh hT) b ((o0+n'*e'.size)+off) hcut (by omega) hsolid hblk hth
   have hrun:(execOp a.eval o).run P w=.ok .skip w':=by simp only[execOp,ho,hv,Instr.storeAt,Instr.sureAddr,Sem.run_bind,Sem.run_pure,Result.andThen_ok];show((storeVar T ⟨b,ob+off,none⟩ (a.eval x)).run P w).andThen _=_;rw[hob,hrunS];rfl
   have hle:(dc C g' st' w).Le ⟨g'.hw,g'.β,C.A,g'.hdr,mM st',st'.ep+1,jq st',w'⟩:=by
    refine⟨rfl,λ_ ht=>⟨ht,rfl⟩,λk c o u hA hu=>?_,Nat.le_succ _,λ_ hs=>⟨hs,rfl⟩,λhe=>absurd he (Nat.succ_ne_self _)⟩;have hne:c≠b:=by rintro rfl;exact hg'.Me (hl2 c (by rw[hfp];simp)) k o hA
    rw[World.cell?_of_block (a:=⟨c,o,none⟩) (hkb c hne)];exact hu
   have hkx':∀c∈fx,c≠b:=by rintro c hc rfl;exact hnb.1 (by simp[hc])
   have hsp:bR ⟨g'.hw,g'.β,C.A,g'.hdr,mM st',st'.ep+1,jq st',w'⟩
    (((eX arr ((o0+n'*e'.size)+off) us).toList.drop (o0+n'*e'.size)).take e'.size) (eQ (cellsOf e' (.own none) x0) off vs) (k1++fh++k3):=by
    have e2:eQ (cellsOf e' (.own none) x0) off vs=(cellsOf e' (.own none) x0).take off++vs++(cellsOf e' (.own none) x0).drop (off+us.length):=by simp only[eQ];rw[hul]
    rw[e2,G5 hfitu hsz']
    refine((r1.mono hle (λc hc=>⟨hkb c (hkx' c (by rw[hkx];simp[hc])),rfl⟩)).append
     (hrh.mono hle (λc hc=>⟨hkb c (λe=>hfh2 c hc (by rw[hfp,e];simp)),rfl⟩))).append
     (r3.mono hle (λc hc=>⟨hkb c (hkx' c (by rw[hkx];simp[hc])),rfl⟩))
   obtain⟨q1,q2,hq,hq1,hq2⟩:=xP hsp hof
   have hlen2:(((eX arr ((o0+n'*e'.size)+off) us).toList.drop (o0+n'*e'.size)).take e'.size).length=e'.size:=by rw[hsp.length,E9 (by rw[kS];omega),kS]
   rw[df (by omega)]at hq2
   have hq2':q2=[]:=hq2
   subst hq2'
   rw[cd (by omega)]at hq1
   rw[bK]at hq
   have hownN:=hset w' us off x' q1 hfitu (wM hbs) (λc hc=>hkb c (λe=>hnb.1 (by rw[<-e];rcases ay.1 hc with k|k<;>simp[k]))) hq1
   have hmem:∀c∈b::(f1++q1++f3),c∈f2\/c∈fh:=by intro c hc;rw[<-hq]at hc;simp only[bQ,ay]at hc;rw[hfp,hkx];simp only[bQ,ay];rcases hc with hc|((hc|((hc|hc)|hc))|hc)<;>simp[hc]
   have hnd:(b::(f1++q1++f3)).Nodup:=by
    have hx2:=hnb.2;rw[hkx]at hx2;rw[aZ]at hx2;have m1:=aO.1 hx2;have m2:=aO.1 m1.2.1;have m2a:=m2.1;rw[aZ]at m2a;have m3:=aO.1 m2a;have m4:=aO.1 m3.2.1;have inx:∀c,(c∈f1\/c∈k1\/c∈k3\/c∈f3)->c∈f2:=by intro c hc;rw[hfp,hkx];simp only[bQ,ay];rcases hc with hc|hc|hc|hc<;>simp[hc]
    rw[<-hq];refine dA.2 ⟨λhm=>?_,?_⟩;simp only[ay]at hm;rcases hm with(hm|((hm|hm)|hm))|hm;exact hnb.1 (by simp[hm]);exact hnb.1 (by rw[hkx];simp[hm]);exact hfh2 b hm (by rw[hfp];simp);exact hnb.1 (by rw[hkx];simp[hm]);exact hnb.1 (by simp[hm]);rw[aZ];refine aO.2 ⟨m1.1,aO.2 ⟨?_,m2.2.1,?_⟩,?_⟩;rw[aZ];refine aO.2 ⟨m3.1,aO.2 ⟨hnh,m4.2.1,?_⟩,?_⟩;rintro c hc d hd rfl;exact hfh2 c hc (inx c (by simp[hd]));rintro c hc d hd rfl;rcases ay.1 hd with hd|hd;exact hfh2 c hd (inx c (by simp[hc]));exact m3.2.2 c hc c (bw _ hd) rfl;rintro c hc d hd rfl;simp only[ay]at hc;rcases hc with(hc|hc)|hc;exact m2.2.2 c (by simp[hc]) c hd rfl;exact hfh2 c hc (inx c (by simp[hd]));exact m2.2.2 c (by simp[hc]) c hd rfl;rintro c hc d hd rfl;simp only[ay]at hd;rcases hd with((hd|hd)|hd)|hd;exact m1.2.2 c hc c (by simp[hd]) rfl;exact hfh2 c hd (inx c (by simp[hc]));exact m1.2.2 c hc c (by simp[hd]) rfl;exact m1.2.2 c hc c (by simp[hd]) rfl
   have hfrw:Fr (λc=>ed (g'.lab c)\/c∈f2) w w':=⟨rfl,rfl,rfl,by show _<=(uj _ _ _ _ _).heap.size;rw[lM];exact bh _,λc _ hc=>hkb c (λe=>hc (.inr (by rw[hfp,e];simp)))⟩
   obtain⟨g2,hg2⟩:=hfin w' g'.hw (xs.set n' x') (b::(f1++q1++f3)) hownN hnd (λc hc=>by rcases hmem c hc with k|k;exact⟨by show _<(uj _ _ _ _ _).heap.size;rw[lM];exact(hg'.labs c _ (hl2 c k)).1,.inl k⟩;exact⟨by show _<(uj _ _ _ _ _).heap.size;rw[lM];exact(hg'.labs c _ (hlh c k)).1,.inr (by rw[hlh c k];rfl)⟩) hfrw (λ_ _ _ _ _=>rfl)
   refine⟨undef,_,_,.inr ⟨rfl,hrun⟩,?_,hk⟩
   rw[hd]
   have hin':i.toNat=n':=by omega
   rw[hin']
   exact⟨g2,hg2⟩
  ·cases hk
 cases hk;cases hk;rename_i t' i' q e' xs hget;split at hk;rename_i hee;subst hee;split at hk;rename_i hc;obtain⟨rfl,rfl⟩:=hc;simp only at hk;cases hix:aaQ xs i' i with|none=>rw[hix]at hk;simp[aa]at hk|some x0=>obtain⟨rfl,hix2⟩:=aaR hix;rw[hix]at hk;simp only[aa]at hk;split at hk;rename_i x' hof;exact NA hE hd ho hT hlen hg' (by rw[hv,hob,eG]) (by rw[hhdr];exact hrt) hin hget hof hk;cases hk
 cases hk;cases hk;cases hk
theorem Yl {E:Env}(hE:jA P E.ty){o:Oper}{p x:Operand}(hd:o.dst=none)(ho:o.op=.store T p x)(h:oa C st a w){K:AS->az R}(hk:wK E T p x st K=some r):mL P C o a w K r:=by unfold wK at hk;split at hk;rename_i sh s off hT hp;split at hk;rename_i gg vs st' htk;split at hk;rename_i cs hbx;split at hk;rename_i hlen;split at hk;rename_i hfit;exact NW hE hd ho h hT hp htk hbx hlen.1 hlen.2 hfit hk;cases hk;cases hk;cases hk;cases hk;rename_i sh ep rt t e y i off hT hp;split at hk;rename_i gg vs st' htk;split at hk;rename_i hc;exact NY hE hd ho h hT hp htk hc.1 hc.2 hk;cases hk;cases hk;cases hk
end Go.Dn
