import Derived.Test.YtainmjjkipbciaaGreatDnOps2
/- Part 3: an element of an owned slice is written. -/
namespace Go.Dn
open Go.RowKit
variable {P:Program} {C:Ctx} {st:AS} {a:Act} {w:World} {R:Type} {r:R}
variable {arr:Array Value} {gg:Bool} {e:CT} {i:Int} {off:Nat} {rt:kv} {sh:Shape} {T:TypeId} {vs:ax AC} {us:iS}
theorem wg {o:Nat}(h:o+us.length<=arr.size)(j:Nat): (eY arr o us).toList[j]?=if o<=j/\j<o+us.length then us[j-o]? else arr.toList[j]?:=by
 rw[tR us arr o h];have hl:(arr.toList.take o).length=o:=by rw[aS];simp;omega
 by_cases h1:j<o;rw[jR,aN,bf (by omega),dP,aH h1];by_cases h2:j<o+us.length;rw[zip,aN,bt (by omega),hl,bf (by omega)];rw[jR,bt (by rw[ai];omega),ai,hl,bJ];congr 1;omega
theorem jn {l:iS}(p n j:Nat):((l.drop p).take n)[j]?=if j<n then l[p+j]? else none:=by rw[dP];split;rw[bJ];rfl
theorem Db {o0 size n i:Nat}(hoff:off+us.length<=size)(hn:o0+(n+1)*size<=arr.size)(hi:i≠n): ((eY arr (o0+n*size+off) us).toList.drop (o0+i*size)).take size=(arr.toList.drop (o0+i*size)).take size:=by
 have hn':o0+n*size+size<=arr.size:=by rw[cO,fO]at hn;omega
 apply cV;intro j;rw[jn,jn];split;rename_i hj;rw[wg (by omega),aI];intro hc;rcases Nat.lt_or_gt_of_ne hi with h|h;have:(i+1)*size<=n*size:=cK _ h;rw[cO,fO]at this;omega;have:(n+1)*size<=i*size:=cK _ h;rw[cO,fO]at this;omega;rfl
theorem ER {p size:Nat}(hoff:off+us.length<=size)(hn':p+size<=arr.size): ((eY arr (p+off) us).toList.drop p).take size= ((arr.toList.drop p).take size).take off++us++((arr.toList.drop p).take size).drop (off+us.length):=by
 have hl:((arr.toList.drop p).take size).length=size:=by simp;omega
 have hl2:(((arr.toList.drop p).take size).take off).length=off:=by rw[aS,hl];omega
 apply cV;intro j;rw[jn];by_cases hj:j<size;rw[aH hj,wg (by omega)];by_cases h1:j<off;rw[jR,aN,bf (by omega),dP,aH h1,jn,aH hj];by_cases h2:j<off+us.length;rw[zip,aN,bt (by omega),hl2,bf (by omega)];congr 1;omega;rw[jR,bt (by rw[ai];omega),ai,hl2,bJ,jn,show off+us.length+(j-(off+us.length))=j by omega,aH hj];rw[aI hj,bH];simp only[ai,hl2,aO,hl];omega
theorem ZZ {hw:Nat->Nat}{w:World}{v:Value}{xs:ax e.D}{fp0:fF}(h:fP hw w (.sl e) [v] xs fp0){n:Nat}{x:e.D}(hx:xs[n]?=some x): ∃b o0 cap arr T fr f1 fx f3,v=.slice (some ⟨b,o0,none⟩) xs.length cap/\w.heap[b]?=some (.cells arr T fr)/\oW arr fr/\o0+(n+1)*e.size<=arr.size/\ fP hw w e ((arr.toList.drop (o0+n*e.size)).take e.size) x fx/\fp0=b::(f1++fx++f3)/\ ∀(w':World)(us:iS)(off:Nat)(x':e.D)(fx':fF),off+us.length<=e.size->w'.heap[b]?=some (.cells (eY arr (o0+n*e.size+off) us) T fr)-> (∀b'∈f1++f3,w'.heap[b']?=w.heap[b']?)->fP hw w' e (((eY arr (o0+n*e.size+off) us).toList.drop (o0+n*e.size)).take e.size) x' fx'-> fP hw w' (.sl e) [v] (xs.set n x') (b::(f1++fx'++f3)):=by
 obtain⟨u,hu,h⟩:=h;simp at hu;subst hu;have hnl:n<xs.length:=(aA.1 hx).1;rcases h with⟨⟨_,rfl⟩,rfl,rfl⟩|⟨b,o0,cap,arr,T,fr,fps,rfl,hb,hth,hs,hc,hh,rfl,hl,hr⟩;simp at hx;have hfn:fps[n]?=some fps[n]:=al (by omega);have hfs:=BB hfn;have hm:o0+(n+1)*e.size<=arr.size:=by rw[hs];exact Nat.add_le_add_left (cK _ (by omega)) _
 refine⟨b,o0,cap,arr,T,fr,(fps.take n).flatten,fps[n],(fps.drop (n+1)).flatten,rfl,hb,hth,hm,hr n x _ hx hfn,by rw[hfs.1],?_⟩;intro w' us off x' fx' hoff hb' hk hown;refine⟨_,rfl,.inr ⟨b,o0,cap,eY arr (o0+n*e.size+off) us,T,fr,fps.set n fx',by simp,hb',λj hj=>hth j (by rwa[iL]at hj),by rw[iL];exact hs,by simpa using hc,by simpa using hh,by rw[hfs.2],by simp[hl],?_⟩⟩;intro i y f hy hf;by_cases hin:i=n;subst hin;rw[bC]at hy hf;simp only[bU,hnl]at hy;simp only[bU]at hf;rw[zip]at hf;simp at hy hf;subst hy;subst hf;exact hown;rw[aF (cc hin)]at hy hf;rw[Db hoff hm hin];refine fP.mono (hr i y f hy hf) (λb' hb''=>⟨hk b' ?_,rfl⟩);have hil:i<fps.length:=(aA.1 hf).1;have hfi:fps[i]=f:=by rw[al hil]at hf;simpa using hf
 rcases Nat.lt_or_gt_of_ne hin with hlt|hgt;refine bA _ (List.mem_flatten.2 ⟨f,?_,hb''⟩);rw[List.mem_take_iff_getElem];exact⟨i,by omega,hfi⟩;refine bg _ (List.mem_flatten.2 ⟨f,?_,hb''⟩);rw[List.mem_drop_iff_getElem];exact⟨i-(n+1),by omega,by rw[<-hfi];congr 1;omega⟩
theorem P9 {α:Type}{xs:ax α}{x:α}(h:idx xs i=some x):∃n:Nat,i=n/\xs[n]?=some x:=by cases i with|ofNat n=>exact⟨n,rfl,h⟩|negSucc n=>simp[idx]at h
theorem KU {E:Env}(hE:jr P E.ty){o:Oper}{p x:Operand}(hd:o.dst=none)(ho:o.op=.store T p x){K:AS->aB R}{t':Nat}{st':AS}{g':Gh}(hT:je E.ty T=some sh)(hlen:vs.length=sh.ct.size)(hg':ew C g' st' a w [(a.eval x,.val gg vs)]){b o0 len cap n:Nat}{q:aB Nat}{xs:ax e.D}{x':e.D}(hv:a.eval p=.pointer (some ⟨b,o0+n*e.size,none⟩))(hrt:g'.hdr t'=.slice (some ⟨b,o0,none⟩) len cap)(hin:i=n)(hget:st'.fB rt=some (.sl (.holed (some t') i q) e xs))(hof:kT e vs=some (x',[]))(hk:K {st'.fG rt (.sl (.own (some t')) e (xs.set i.toNat x'))with ep:=st'.ep+1}=some r):mj P C o a w K r:=by
 obtain⟨v0,f2,hrel,hn2,hl2,hfin⟩:=hg'.Ov rt (by simp) hget;obtain⟨_,⟨k,hik,hown⟩,htag⟩:=hrel;have hkn:k=n:=by omega
 subst hkn;obtain⟨b2,o2,cap2,arr,T',fr,fps,hv0,hblk,hth,hs,hc,hh,hf2,hl,hkl,hfk,hr⟩:=hown;have hblk:w.heap[b2]?=some (.cells arr T' fr):=hblk;have h1:v0=g'.hdr t':=(htag t' rfl).2;rw[hrt,hv0]at h1;simp only[Value.slice.injEq,bj,Addr.mk.injEq]at h1;obtain⟨⟨rfl,rfl,_⟩,_⟩:=h1;obtain⟨fh,⟨us,hcut,hrh⟩,hnh,hlh⟩:=hg'.hands 0 _ _ rfl;obtain⟨q1,q2,hq,hq1,hq2⟩:=wb hrh hof;have hdrop:us.drop e.size=[]:=by cases hd0:us.drop e.size with|nil=>rfl|cons _ _=>rw[hd0]at hq2;exact hq2.elim
 rw[hdrop]at hq2;have hq2':q2=[]:=hq2;subst hq2';rw[bN]at hq;subst hq;have hus:us.take e.size=us:=by have:=cy e.size us;rw[hdrop,bN]at this;exact this
 rw[hus]at hq1;have hul:us.length=e.size:=fP.length hq1;have hsz:o2+(k+1)*e.size<=arr.size:=by rw[hs];exact Nat.add_le_add_left (cK _ (by omega)) _
 have hsz':o2+k*e.size+e.size<=arr.size:=by rw[cO,fO]at hsz;omega
 let w':=sK w b2 (eY arr (o2+k*e.size+0) us) T' fr;have hbs:=lI hblk;have hkb:∀c,c≠b2->w'.heap[c]?=w.heap[c]?:=λc hc=>mh hc;have hlen':=hrh.length;have hrunS:=AI (P:=P) (w:=w) (hE T sh hT) b2 (o2+k*e.size+0) hcut (by omega) (λu hu=>fP.mE hq1 u hu) hblk hth;have hrun:(execOp a.eval o).run P w=.ok .skip w':=by simp only[execOp,ho,hv,Instr.storeAt,Instr.sureAddr,Sem.run_bind,Sem.run_pure,Result.andThen_ok];show((storeVar T ⟨b2,o2+k*e.size+0,none⟩ (a.eval x)).run P w).andThen _=_;rw[hrunS];rfl
 have hfs:=BB hfk;have hnb:b2∉fps.flatten:=by rw[hf2]at hn2;exact(dy.1 hn2).1
 have hnf:fps.flatten.Nodup:=by rw[hf2]at hn2;exact(dy.1 hn2).2
 have hfh2:∀c∈fh,c∉f2:=by intro c hc hm;have h1:=hlh c hc;rw[hl2 c hm]at h1;cases rt<;>cases h1
 have hfhb:∀c∈fh,c≠b2:=λc hc e=>hfh2 c hc (by rw[hf2,e];simp);have hflat:∀c,c∈(fps.set k fh).flatten↔c∈fps.flatten\/c∈fh:=by intro c;rw[hfs.2,hfs.1];simp only[aw,List.not_mem_nil,or_false];constructor;rintro((h|h)|h)<;>simp[h];rintro((h|h)|h)<;>simp[h]
 have hownN:fP g'.hw w' (.sl e) [v0] (xs.set k x') (b2::(fps.set k fh).flatten):=by
  refine⟨v0,rfl,.inr ⟨b2,o2,cap2,eY arr (o2+k*e.size+0) us,T',fr,fps.set k fh,by rw[hv0];simp,uW hbs,λj hj=>hth j (by rwa[iL]at hj),by rw[iL];exact hs,by simpa using hc,by rw[az];exact hh,rfl,by simp[hl],?_⟩⟩;intro j y f hy hf;by_cases hjk:j=k;subst hjk;rw[bC]at hy hf;simp only[bU,hkl]at hy;simp only[bU]at hf;rw[zip]at hf;simp at hy hf;subst hy;subst hf;rw[ER (by omega) hsz'];have e1:((arr.toList.drop (o2+j*e.size)).take e.size).take 0++us++((arr.toList.drop (o2+j*e.size)).take e.size).drop (0+us.length)=us:=by rw[List.take_zero,cJ,cq (by simp;omega),bN]
  rw[e1];exact fP.mono hq1 (λc hc=>⟨hkb c (hfhb c hc),rfl⟩);rw[aF (cc hjk)]at hy hf;rw[Db (by omega) hsz hjk];refine fP.mono (hr j y f hjk hy hf) (λc hc=>⟨hkb c (λe0=>hnb ?_),rfl⟩);rw[<-e0];exact List.mem_flatten.2 ⟨f,aW hf,hc⟩
 have hndN:(b2::(fps.set k fh).flatten).Nodup:=by
  refine dy.2 ⟨λhm=>?_,?_⟩;rcases(hflat b2).1 hm with h|h;exact hnb h;exact hfhb b2 h rfl;rw[hfs.2];rw[hfs.1,bN]at hnf;have m:=aK.1 hnf;have hin2:∀c,c∈(fps.take k).flatten\/c∈(fps.drop (k+1)).flatten->c∈f2:=by intro c hc;rw[hf2,hfs.1];rcases hc with hc|hc<;>simp[hc]
  refine aK.2 ⟨aK.2 ⟨m.1,hnh,?_⟩,m.2.1,?_⟩;rintro c hc d hd rfl;exact hfh2 c hd (hin2 c (.inl hc));rintro c hc d hd rfl;rcases aw.1 hc with hc|hc;exact m.2.2 c hc c hd rfl;exact hfh2 c hc (hin2 c (.inr hd))
 have hik':i.toNat=k:=by omega
 rw[hik']at hk
 obtain⟨g2,hg2⟩:=hfin w' g'.hw (.sl (.own (some t')) e (xs.set k x')) (b2::(fps.set k fh).flatten) (λc' hle hcw hchw=>⟨by rw[hcw,hchw];exact hownN,λt ht=>by simp at ht;subst ht;have h0:=htag t' rfl;exact⟨(hle.hdr t' h0.1).1,by rw[(hle.hdr t' h0.1).2];exact h0.2⟩⟩) hndN (λc hc=>by
  show _<(sK _ _ _ _ _).heap.size/\_
  rw[lh]
  rcases cA.1 hc with rfl|hc
  ·exact⟨hbs,.inl (by rw[hf2];simp)⟩
  ·rcases(hflat c).1 hc with h|h
   ·have:c∈f2:=by rw[hf2];simp[h]
    exact⟨(hg'.labs c _ (hl2 c this)).1,.inl this⟩
   ·exact⟨(hg'.labs c _ (hlh c h)).1,.inr (by rw[hlh c h];rfl)⟩)
  ⟨rfl,rfl,rfl,by show _<=(sK _ _ _ _ _).heap.size;rw[lh];exact aR _,λc _ hc=>hkb c (λe=>hc (.inr (by rw[hf2,e];simp)))⟩ (λ_ _ _ _ _=>rfl)
 refine⟨undef,_,_,.inr ⟨rfl,hrun⟩,?_,hk⟩;rw[hd];exact⟨g2,hg2⟩
theorem Li {E:Env}(hE:jr P E.ty){o:Oper}{p x:Operand}(hd:o.dst=none)(ho:o.op=.store T p x)(h:nz C st a w){K:AS->aB R}{ep t:Nat}{y:e.D}{st':AS}(hT:je E.ty T=some sh)(hp:st.rd p=.val false [.elt (.loc ep (some (rt,t))) e y i off])(htk:st.take x=(.val gg vs,st'))(hlen:vs.length=sh.ct.size)(hfit:off+sh.ct.size<=e.size)(hk:st'.oH rt t e i off vs K=some r):mj P C o a w K r:=by
 obtain⟨g,hg⟩:=h;have hpv:=hg.rd p;rw[hp]at hpv;obtain⟨_,b,ob,hv,_,_,hroot⟩:=eU hpv;obtain⟨_,n,o0,len,cap,hin,hrt,hnl,hob⟩:=hroot rt t rfl;obtain⟨g',⟨hβ,hhw,hhdr,_⟩,hg'⟩:=hg.abB x;rw[htk]at hg';unfold AS.oH at hk;split at hk;rename_i t' e' xs hget;split at hk;rename_i hee;subst hee;split at hk
 ·rename_i htt
  subst htt
  simp only at hk
  cases hix:idx xs i with
  |none=>rw[hix]at hk;simp[aa]at hk
  |some x0=>
  rw[hix]at hk
  simp only[aa]at hk
  split at hk
  ·rename_i x' hof
   obtain⟨n',hn',hx0⟩:=P9 hix
   have hnn:n'=n:=by omega
   subst hnn
   obtain⟨v0,f2,hrv,hown,hn2,hl2,hfin⟩:=hg'.Ow rt hget
   have hrv: .slice (some ⟨b,o0,none⟩) len cap=v0:=by have h1:=hrv t' rfl;have h2:g.hdr t'=.slice (some ⟨b,o0,none⟩) len cap:=hrt;rw[h1,hhdr,h2]
   obtain⟨b2,o2,cap2,arr,T',fr,f1,fx,f3,hv0,hblk,hth,hsz,hownx,hfp,hset⟩:=ZZ hown hx0
   rw[<-hrv]at hv0
   simp only[Value.slice.injEq,bj,Addr.mk.injEq]at hv0
   obtain⟨⟨rfl,rfl,_⟩,_⟩:=hv0
   obtain⟨fh,⟨us,hcut,hrh⟩,hnh,hlh⟩:=hg'.hands 0 _ _ rfl
   have hul:=hrh.length
   have hfitu:off+us.length<=e'.size:=by omega
   have hsz':(o0+n'*e'.size)+e'.size<=arr.size:=by rw[cO,fO]at hsz;omega
   have hrelx:=xJ (c:=cW C g' st' w) hownx
   obtain⟨k1,k2,k3,hkx,r1,r2,r3⟩:=hrelx.mid off us.length
   have hf2n:=hn2
   rw[hfp]at hf2n
   have hnb:=dy.1 hf2n
   have hfh2:∀c∈fh,c∉f2:=by intro c hc hm;have h1:=hlh c hc;rw[hl2 c hm]at h1;cases rt<;>cases h1
   let w':=sK w b (eY arr ((o0+n'*e'.size)+off) us) T' fr
   have hbs:=lI hblk
   have hkb:∀c,c≠b->w'.heap[c]?=w.heap[c]?:=λc hc=>mh hc
   have hsolid:∀u∈us,u.oneCell'=true:=by
    have hsp:bO (cW C g' st' w) (((arr.toList.drop (o0+n'*e'.size)).take e'.size).take off++us++((arr.toList.drop (o0+n'*e'.size)).take e'.size).drop (off+us.length))
     (eK (cellsOf e' (.own none) x0) off vs) (k1++fh++k3):=by
     have e2:eK (cellsOf e' (.own none) x0) off vs=(cellsOf e' (.own none) x0).take off++vs++(cellsOf e' (.own none) x0).drop (off+us.length):=by simp only[eK];rw[hul]
     rw[e2]
     exact(r1.append hrh).append r3
    obtain⟨q1,q2,hq,hq1,hq2⟩:=wb hsp hof;have hlen2:(((arr.toList.drop (o0+n'*e'.size)).take e'.size).take off++us++((arr.toList.drop (o0+n'*e'.size)).take e'.size).drop (off+us.length)).length=e'.size:=by rw[hsp.length,Di (by rw[kE];omega),kE]
    rw[bP (by omega)]at hq1;intro u hu;exact fP.mE hq1 u (by simp[hu])
   have hrunS:=AI (P:=P) (w:=w) (hE T sh hT) b ((o0+n'*e'.size)+off) hcut (by omega) hsolid hblk hth
   have hrun:(execOp a.eval o).run P w=.ok .skip w':=by simp only[execOp,ho,hv,Instr.storeAt,Instr.sureAddr,Sem.run_bind,Sem.run_pure,Result.andThen_ok];show((storeVar T ⟨b,ob+off,none⟩ (a.eval x)).run P w).andThen _=_;rw[hob,hrunS];rfl
   have hle:(cW C g' st' w).Le ⟨g'.hw,g'.β,C.A,g'.hdr,mn st',st'.ep+1,jf st',w'⟩:=by
    refine⟨rfl,λ_ ht=>⟨ht,rfl⟩,λk c o u hA hu=>?_,Nat.le_succ _,λ_ hs=>⟨hs,rfl⟩,λhe=>absurd he (Nat.succ_ne_self _)⟩;have hne:c≠b:=by rintro rfl;exact hg'.JD (hl2 c (by rw[hfp];simp)) k o hA
    rw[World.cell?_of_block (a:=⟨c,o,none⟩) (hkb c hne)];exact hu
   have hkx':∀c∈fx,c≠b:=by rintro c hc rfl;exact hnb.1 (by simp[hc])
   have hsp:bO ⟨g'.hw,g'.β,C.A,g'.hdr,mn st',st'.ep+1,jf st',w'⟩
    (((eY arr ((o0+n'*e'.size)+off) us).toList.drop (o0+n'*e'.size)).take e'.size) (eK (cellsOf e' (.own none) x0) off vs) (k1++fh++k3):=by
    have e2:eK (cellsOf e' (.own none) x0) off vs=(cellsOf e' (.own none) x0).take off++vs++(cellsOf e' (.own none) x0).drop (off+us.length):=by simp only[eK];rw[hul]
    rw[e2,ER hfitu hsz']
    refine((r1.mono hle (λc hc=>⟨hkb c (hkx' c (by rw[hkx];simp[hc])),rfl⟩)).append
     (hrh.mono hle (λc hc=>⟨hkb c (λe=>hfh2 c hc (by rw[hfp,e];simp)),rfl⟩))).append
     (r3.mono hle (λc hc=>⟨hkb c (hkx' c (by rw[hkx];simp[hc])),rfl⟩))
   obtain⟨q1,q2,hq,hq1,hq2⟩:=wb hsp hof
   have hlen2:(((eY arr ((o0+n'*e'.size)+off) us).toList.drop (o0+n'*e'.size)).take e'.size).length=e'.size:=by rw[hsp.length,Di (by rw[kE];omega),kE]
   rw[cq (by omega)]at hq2
   have hq2':q2=[]:=hq2
   subst hq2'
   rw[bP (by omega)]at hq1
   rw[bN]at hq
   have hownN:=hset w' us off x' q1 hfitu (uW hbs) (λc hc=>hkb c (λe=>hnb.1 (by rw[<-e];rcases aw.1 hc with k|k<;>simp[k]))) hq1
   have hmem:∀c∈b::(f1++q1++f3),c∈f2\/c∈fh:=by intro c hc;rw[<-hq]at hc;simp only[cA,aw]at hc;rw[hfp,hkx];simp only[cA,aw];rcases hc with hc|((hc|((hc|hc)|hc))|hc)<;>simp[hc]
   have hnd:(b::(f1++q1++f3)).Nodup:=by
    have hx2:=hnb.2;rw[hkx]at hx2;rw[aN]at hx2;have m1:=aK.1 hx2;have m2:=aK.1 m1.2.1;have m2a:=m2.1;rw[aN]at m2a;have m3:=aK.1 m2a;have m4:=aK.1 m3.2.1;have inx:∀c,(c∈f1\/c∈k1\/c∈k3\/c∈f3)->c∈f2:=by intro c hc;rw[hfp,hkx];simp only[cA,aw];rcases hc with hc|hc|hc|hc<;>simp[hc]
    rw[<-hq];refine dy.2 ⟨λhm=>?_,?_⟩;simp only[aw]at hm;rcases hm with(hm|((hm|hm)|hm))|hm;exact hnb.1 (by simp[hm]);exact hnb.1 (by rw[hkx];simp[hm]);exact hfh2 b hm (by rw[hfp];simp);exact hnb.1 (by rw[hkx];simp[hm]);exact hnb.1 (by simp[hm]);rw[aN];refine aK.2 ⟨m1.1,aK.2 ⟨?_,m2.2.1,?_⟩,?_⟩;rw[aN];refine aK.2 ⟨m3.1,aK.2 ⟨hnh,m4.2.1,?_⟩,?_⟩;rintro c hc d hd rfl;exact hfh2 c hc (inx c (by simp[hd]));rintro c hc d hd rfl;rcases aw.1 hd with hd|hd;exact hfh2 c hd (inx c (by simp[hc]));exact m3.2.2 c hc c (bg _ hd) rfl;rintro c hc d hd rfl;simp only[aw]at hc;rcases hc with(hc|hc)|hc;exact m2.2.2 c (by simp[hc]) c hd rfl;exact hfh2 c hc (inx c (by simp[hd]));exact m2.2.2 c (by simp[hc]) c hd rfl;rintro c hc d hd rfl;simp only[aw]at hd;rcases hd with((hd|hd)|hd)|hd;exact m1.2.2 c hc c (by simp[hd]) rfl;exact hfh2 c hd (inx c (by simp[hc]));exact m1.2.2 c hc c (by simp[hd]) rfl;exact m1.2.2 c hc c (by simp[hd]) rfl
   have hfrw:Fr (λc=>dV (g'.lab c)\/c∈f2) w w':=⟨rfl,rfl,rfl,by show _<=(sK _ _ _ _ _).heap.size;rw[lh];exact aR _,λc _ hc=>hkb c (λe=>hc (.inr (by rw[hfp,e];simp)))⟩
   obtain⟨g2,hg2⟩:=hfin w' g'.hw (xs.set n' x') (b::(f1++q1++f3)) hownN hnd (λc hc=>by rcases hmem c hc with k|k;exact⟨by show _<(sK _ _ _ _ _).heap.size;rw[lh];exact(hg'.labs c _ (hl2 c k)).1,.inl k⟩;exact⟨by show _<(sK _ _ _ _ _).heap.size;rw[lh];exact(hg'.labs c _ (hlh c k)).1,.inr (by rw[hlh c k];rfl)⟩) hfrw (λ_ _ _ _ _=>rfl)
   refine⟨undef,_,_,.inr ⟨rfl,hrun⟩,?_,hk⟩
   rw[hd]
   have hin':i.toNat=n':=by omega
   rw[hin']
   exact⟨g2,hg2⟩
  ·cases hk
 cases hk;cases hk;rename_i t' i' q e' xs hget;split at hk;rename_i hee;subst hee;split at hk;rename_i hc;obtain⟨rfl,rfl⟩:=hc;simp only at hk;cases hix:Wp xs i' i with|none=>rw[hix]at hk;simp[aa]at hk|some x0=>obtain⟨rfl,hix2⟩:=Wq hix;rw[hix]at hk;simp only[aa]at hk;split at hk;rename_i x' hof;exact KU hE hd ho hT hlen hg' (by rw[hv,hob,dQ]) (by rw[hhdr];exact hrt) hin hget hof hk;cases hk
 cases hk;cases hk;cases hk
theorem Uh {E:Env}(hE:jr P E.ty){o:Oper}{p x:Operand}(hd:o.dst=none)(ho:o.op=.store T p x)(h:nz C st a w){K:AS->aB R}(hk:uT E T p x st K=some r):mj P C o a w K r:=by unfold uT at hk;split at hk;rename_i sh s off hT hp;split at hk;rename_i gg vs st' htk;split at hk;rename_i cs hbx;split at hk;rename_i hlen;split at hk;rename_i hfit;exact Lg hE hd ho h hT hp htk hbx hlen.1 hlen.2 hfit hk;cases hk;cases hk;cases hk;cases hk;rename_i sh ep rt t e y i off hT hp;split at hk;rename_i gg vs st' htk;split at hk;rename_i hc;exact Li hE hd ho h hT hp htk hc.1 hc.2 hk;cases hk;cases hk;cases hk
end Go.Dn
