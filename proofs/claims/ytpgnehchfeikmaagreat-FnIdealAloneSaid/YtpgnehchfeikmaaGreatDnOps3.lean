import Derived.Test.YtpgnehchfeikmaaGreatDnOps2
/- Part 3: an element of an owned slice is written. -/
namespace Go.Dn
open Go.RowKit
variable {P:Program} {C:Ctx} {st:AS} {a:Act} {w:World} {R:Type} {r:R}
theorem qp {arr:Array Value}{o:Nat}{us:List Value}(h:o+us.length≤arr.size)(j:Nat): (cW arr o us).toList[j]?=if o≤j∧j<o+us.length then us[j-o]? else arr.toList[j]?:=by
 rw[oq us arr o h];have hl:(arr.toList.take o).length=o:=by rw[bn];simp;omega
 by_cases h1:j<o;rw[aq (by omega),aC,List.getElem?_append_left (by omega),List.getElem?_take,au h1];by_cases h2:j<o+us.length;rw[au (by omega),aC,List.getElem?_append_right (by omega),hl,List.getElem?_append_left (by omega)];rw[aq (by omega),List.getElem?_append_right (by rw[ak];omega),ak,hl,List.getElem?_drop];congr 1;omega
theorem fz {l:List Value}(p n j:Nat):((l.drop p).take n)[j]?=if j<n then l[p+j]? else none:=by rw[List.getElem?_take];split;rw[List.getElem?_drop];rfl
theorem wV {arr:Array Value}{us:List Value}{o0 size n i off:Nat}(hoff:off+us.length≤size)(hn:o0+(n+1)*size≤arr.size)(hi:i≠n): ((cW arr (o0+n*size+off) us).toList.drop (o0+i*size)).take size=(arr.toList.drop (o0+i*size)).take size:=by
 have hn':o0+n*size+size≤arr.size:=by rw[bQ,dx]at hn;omega
 apply List.ext_getElem?;intro j;rw[fz,fz];split;rename_i hj;rw[qp (by omega),aq];intro hc;rcases Nat.lt_or_gt_of_ne hi with h|h;have:(i+1)*size≤n*size:=bP _ h;rw[bQ,dx]at this;omega;have:(n+1)*size≤i*size:=bP _ h;rw[bQ,dx]at this;omega;rfl
theorem yp {arr:Array Value}{us:List Value}{p size off:Nat}(hoff:off+us.length≤size)(hn':p+size≤arr.size): ((cW arr (p+off) us).toList.drop p).take size= ((arr.toList.drop p).take size).take off++us++((arr.toList.drop p).take size).drop (off+us.length):=by
 have hl:((arr.toList.drop p).take size).length=size:=by simp;omega
 have hl2:(((arr.toList.drop p).take size).take off).length=off:=by rw[bn,hl];omega
 apply List.ext_getElem?;intro j;rw[fz];by_cases hj:j<size;rw[au hj,qp (by omega)];by_cases h1:j<off;rw[aq (by omega),aC,List.getElem?_append_left (by omega),List.getElem?_take,au h1,fz,au hj];by_cases h2:j<off+us.length;rw[au (by omega),aC,List.getElem?_append_right (by omega),hl2,List.getElem?_append_left (by omega)];congr 1;omega;rw[aq (by omega),List.getElem?_append_right (by rw[ak];omega),ak,hl2,List.getElem?_drop,fz,show off+us.length+(j-(off+us.length))=j by omega,au hj];rw[aq hj,List.getElem?_eq_none];simp only[ak,hl2,bc,hl];omega
theorem Q2 {hw:Nat→Nat}{w:World}{e:CT}{v:Value}{xs:List e.D}{fp0:List Nat}(h:cR hw w (.sl e) [v] xs fp0){n:Nat}{x:e.D}(hx:xs[n]?=some x): ∃b o0 cap arr T fr f1 fx f3,v=.slice (some ⟨b,o0,none⟩) xs.length cap∧w.heap[b]?=some (.cells arr T fr)∧kj arr fr∧o0+(n+1)*e.size≤arr.size∧ cR hw w e ((arr.toList.drop (o0+n*e.size)).take e.size) x fx∧fp0=b::(f1++fx++f3)∧ ∀(w':World)(us:List Value)(off:Nat)(x':e.D)(fx':List Nat),off+us.length≤e.size→w'.heap[b]?=some (.cells (cW arr (o0+n*e.size+off) us) T fr)→ (∀b'∈f1++f3,w'.heap[b']?=w.heap[b']?)→cR hw w' e (((cW arr (o0+n*e.size+off) us).toList.drop (o0+n*e.size)).take e.size) x' fx'→ cR hw w' (.sl e) [v] (xs.set n x') (b::(f1++fx'++f3)):=by
 obtain⟨u,hu,h⟩:=h;simp at hu;subst hu;have hnl:n<xs.length:=(List.getElem?_eq_some_iff.1 hx).1;rcases h with⟨⟨_,rfl⟩,rfl,rfl⟩|⟨b,o0,cap,arr,T,fr,fps,rfl,hb,hth,hs,hc,hh,rfl,hl,hr⟩;simp at hx;have hfn:fps[n]?=some fps[n]:=List.getElem?_eq_getElem (by omega);have hfs:=sQ hfn;have hm:o0+(n+1)*e.size≤arr.size:=by rw[hs];exact Nat.add_le_add_left (bP _ (by omega)) _
 refine⟨b,o0,cap,arr,T,fr,(fps.take n).flatten,fps[n],(fps.drop (n+1)).flatten,rfl,hb,hth,hm,hr n x _ hx hfn,by rw[hfs.1],?_⟩;intro w' us off x' fx' hoff hb' hk hown;refine⟨_,rfl,.inr ⟨b,o0,cap,cW arr (o0+n*e.size+off) us,T,fr,fps.set n fx',by simp,hb',λj hj=>hth j (by rwa[eM]at hj),by rw[eM];exact hs,by simpa using hc,by simpa using hh,by rw[hfs.2],by simp[hl],?_⟩⟩;intro i y f hy hf;by_cases hin:i=n;subst hin;rw[List.getElem?_set]at hy hf;simp only[bj,hnl]at hy;simp only[bj]at hf;rw[au (by omega)]at hf;simp at hy hf;subst hy;subst hf;exact hown;rw[List.getElem?_set_ne (bL hin)]at hy hf;rw[wV hoff hm hin];refine cR.mono (hr i y f hy hf) (λb' hb''=>⟨hk b' ?_,rfl⟩);have hil:i<fps.length:=(List.getElem?_eq_some_iff.1 hf).1;have hfi:fps[i]=f:=by rw[List.getElem?_eq_getElem hil]at hf;simpa using hf
 rcases Nat.lt_or_gt_of_ne hin with hlt|hgt;refine aS _ (List.mem_flatten.2 ⟨f,?_,hb''⟩);rw[List.mem_take_iff_getElem];exact⟨i,by omega,hfi⟩;refine aI _ (List.mem_flatten.2 ⟨f,?_,hb''⟩);rw[List.mem_drop_iff_getElem];exact⟨i-(n+1),by omega,by rw[←hfi];congr 1;omega⟩
theorem Co {α:Type}{xs:List α}{i:Int}{x:α}(h:idx xs i=some x):∃n:Nat,i=n∧xs[n]?=some x:=by cases i with|ofNat n=>exact⟨n,rfl,h⟩|negSucc n=>simp[idx]at h
theorem DJ {E:Env}(hE:fC P E.ty){o:Oper}{T:TypeId}{p x:Operand}(hd:o.dst=none)(ho:o.op=.store T p x){K:AS→Option R}{sh:Shape}{t':Nat}{rt:fV}{e:CT}{i:Int}{gg:Bool}{vs:List AC}{st':AS}{g':Gh}(hT:ft E.ty T=some sh)(hlen:vs.length=sh.ct.size)(hg':cw C g' st' a w [(a.eval x,.val gg vs)]){b o0 len cap n:Nat}{q:Option Nat}{xs:List e.D}{x':e.D}(hv:a.eval p=.pointer (some ⟨b,o0+n*e.size,none⟩))(hrt:g'.hdr t'=.slice (some ⟨b,o0,none⟩) len cap)(hin:i=n)(hget:st'.df rt=some (.sl (.holed (some t') i q) e xs))(hof:eQ e vs=some (x',[]))(hk:K {st'.dh rt (.sl (.own (some t')) e (xs.set i.toNat x'))with ep:=st'.ep+1}=some r):ik P C o a w K r:=by
 obtain⟨v0,f2,hrel,hn2,hl2,hfin⟩:=hg'.GH rt (by simp) hget;obtain⟨_,⟨k,hik,hown⟩,htag⟩:=hrel;have hkn:k=n:=by omega
 subst hkn;obtain⟨b2,o2,cap2,arr,T',fr,fps,hv0,hblk,hth,hs,hc,hh,hf2,hl,hkl,hfk,hr⟩:=hown;have hblk:w.heap[b2]?=some (.cells arr T' fr):=hblk;have h1:v0=g'.hdr t':=(htag t' rfl).2;rw[hrt,hv0]at h1;simp only[Value.slice.injEq,aO,Addr.mk.injEq]at h1;obtain⟨⟨rfl,rfl,_⟩,_⟩:=h1;obtain⟨fh,⟨us,hcut,hrh⟩,hnh,hlh⟩:=hg'.hands 0 _ _ rfl;obtain⟨q1,q2,hq,hq1,hq2⟩:=jf hrh hof;have hdrop:us.drop e.size=[]:=by cases hd0:us.drop e.size with|nil=>rfl|cons _ _=>rw[hd0]at hq2;exact hq2.elim
 rw[hdrop]at hq2;have hq2':q2=[]:=hq2;subst hq2';rw[ba]at hq;subst hq;have hus:us.take e.size=us:=by have:=bI e.size us;rw[hdrop,ba]at this;exact this
 rw[hus]at hq1;have hul:us.length=e.size:=cR.length hq1;have hsz:o2+(k+1)*e.size≤arr.size:=by rw[hs];exact Nat.add_le_add_left (bP _ (by omega)) _
 have hsz':o2+k*e.size+e.size≤arr.size:=by rw[bQ,dx]at hsz;omega
 let w':=ns w b2 (cW arr (o2+k*e.size+0) us) T' fr;have hbs:=gU hblk;have hkb:∀c,c≠b2→w'.heap[c]?=w.heap[c]?:=λc hc=>ig hc;have hlen':=hrh.length;have hrunS:=uK (P:=P) (w:=w) (hE T sh hT) b2 (o2+k*e.size+0) hcut (by omega) (λu hu=>cR.iw hq1 u hu) hblk hth (by omega);have hrun:(execOp a.eval o).run P w=.ok .skip w':=by simp only[execOp,ho,hv,Instr.storeAt,Instr.sureAddr,Sem.run_bind,Sem.run_pure,Result.andThen_ok];show((storeVar T ⟨b2,o2+k*e.size+0,none⟩ (a.eval x)).run P w).andThen _=_;rw[hrunS];rfl
 have hfs:=sQ hfk;have hnb:b2∉fps.flatten:=by rw[hf2]at hn2;exact(List.nodup_cons.1 hn2).1
 have hnf:fps.flatten.Nodup:=by rw[hf2]at hn2;exact(List.nodup_cons.1 hn2).2
 have hfh2:∀c∈fh,c∉f2:=by intro c hc hm;have h1:=hlh c hc;rw[hl2 c hm]at h1;cases rt<;>cases h1
 have hfhb:∀c∈fh,c≠b2:=λc hc e=>hfh2 c hc (by rw[hf2,e];simp);have hflat:∀c,c∈(fps.set k fh).flatten↔c∈fps.flatten∨c∈fh:=by intro c;rw[hfs.2,hfs.1];simp only[al,List.not_mem_nil,or_false];constructor;rintro((h|h)|h)<;>simp[h];rintro((h|h)|h)<;>simp[h]
 have hownN:cR g'.hw w' (.sl e) [v0] (xs.set k x') (b2::(fps.set k fh).flatten):=by
  refine⟨v0,rfl,.inr ⟨b2,o2,cap2,cW arr (o2+k*e.size+0) us,T',fr,fps.set k fh,by rw[hv0];simp,pA hbs,λj hj=>hth j (by rwa[eM]at hj),by rw[eM];exact hs,by simpa using hc,by rw[aP];exact hh,rfl,by simp[hl],?_⟩⟩;intro j y f hy hf;by_cases hjk:j=k;subst hjk;rw[List.getElem?_set]at hy hf;simp only[bj,hkl]at hy;simp only[bj]at hf;rw[au (by omega)]at hf;simp at hy hf;subst hy;subst hf;rw[yp (by omega) hsz'];have e1:((arr.toList.drop (o2+j*e.size)).take e.size).take 0++us++((arr.toList.drop (o2+j*e.size)).take e.size).drop (0+us.length)=us:=by rw[List.take_zero,bu,cc (by simp;omega),ba]
  rw[e1];exact cR.mono hq1 (λc hc=>⟨hkb c (hfhb c hc),rfl⟩);rw[List.getElem?_set_ne (bL hjk)]at hy hf;rw[wV (by omega) hsz hjk];refine cR.mono (hr j y f hjk hy hf) (λc hc=>⟨hkb c (λe0=>hnb ?_),rfl⟩);rw[←e0];exact List.mem_flatten.2 ⟨f,List.mem_of_getElem? hf,hc⟩
 have hndN:(b2::(fps.set k fh).flatten).Nodup:=by
  refine List.nodup_cons.2 ⟨λhm=>?_,?_⟩;rcases(hflat b2).1 hm with h|h;exact hnb h;exact hfhb b2 h rfl;rw[hfs.2];rw[hfs.1,ba]at hnf;have m:=List.nodup_append.1 hnf;have hin2:∀c,c∈(fps.take k).flatten∨c∈(fps.drop (k+1)).flatten→c∈f2:=by intro c hc;rw[hf2,hfs.1];rcases hc with hc|hc<;>simp[hc]
  refine List.nodup_append.2 ⟨List.nodup_append.2 ⟨m.1,hnh,?_⟩,m.2.1,?_⟩;rintro c hc d hd rfl;exact hfh2 c hd (hin2 c (.inl hc));rintro c hc d hd rfl;rcases al.1 hc with hc|hc;exact m.2.2 c hc c hd rfl;exact hfh2 c hc (hin2 c (.inr hd))
 have hik':i.toNat=k:=by omega
 rw[hik']at hk
 obtain⟨g2,hg2⟩:=hfin w' g'.hw (.sl (.own (some t')) e (xs.set k x')) (b2::(fps.set k fh).flatten) (λc' hle hcw hchw=>⟨by rw[hcw,hchw];exact hownN,λt ht=>by simp at ht;subst ht;have h0:=htag t' rfl;exact⟨(hle.hdr t' h0.1).1,by rw[(hle.hdr t' h0.1).2];exact h0.2⟩⟩) hndN (λc hc=>by
  show _<(ns _ _ _ _ _).heap.size∧_
  rw[gN]
  rcases bl.1 hc with rfl|hc
  ·exact⟨hbs,.inl (by rw[hf2];simp)⟩
  ·rcases(hflat c).1 hc with h|h
   ·have:c∈f2:=by rw[hf2];simp[h]
    exact⟨(hg'.labs c _ (hl2 c this)).1,.inl this⟩
   ·exact⟨(hg'.labs c _ (hlh c h)).1,.inr (by rw[hlh c h];rfl)⟩)
  ⟨rfl,rfl,rfl,by show _≤(ns _ _ _ _ _).heap.size;rw[gN];exact aQ _,λc _ hc=>hkb c (λe=>hc (.inr (by rw[hf2,e];simp)))⟩ (λ_ _ _ _ _=>rfl)
 refine⟨undef,_,_,.inr ⟨rfl,hrun⟩,?_,hk⟩;rw[hd];exact⟨g2,hg2⟩
theorem Ea {E:Env}(hE:fC P E.ty){o:Oper}{T:TypeId}{p x:Operand}(hd:o.dst=none)(ho:o.op=.store T p x)(h:iD C st a w){K:AS→Option R}{sh:Shape}{ep t:Nat}{rt:fV}{e:CT}{y:e.D}{i:Int}{off:Nat}{gg:Bool}{vs:List AC}{st':AS}(hT:ft E.ty T=some sh)(hp:st.rd p=.val false [.elt (.loc ep (some (rt,t))) e y i off])(htk:st.take x=(.val gg vs,st'))(hlen:vs.length=sh.ct.size)(hfit:off+sh.ct.size≤e.size)(hk:st'.jQ rt t e i off vs K=some r):ik P C o a w K r:=by
 obtain⟨g,hg⟩:=h;have hpv:=hg.rd p;rw[hp]at hpv;obtain⟨_,b,ob,hv,_,_,hroot⟩:=cL hpv;obtain⟨_,n,o0,len,cap,hin,hrt,hnl,hob⟩:=hroot rt t rfl;obtain⟨g',⟨hβ,hhw,hhdr,_⟩,hg'⟩:=hg.Sy x;rw[htk]at hg';unfold AS.jQ at hk;split at hk;rename_i t' e' xs hget;split at hk;rename_i hee;subst hee;split at hk
 ·rename_i htt
  subst htt
  simp only at hk
  cases hix:idx xs i with
  |none=>rw[hix]at hk;simp[aa]at hk
  |some x0=>
  rw[hix]at hk
  simp only[aa]at hk
  split at hk
  ·rename_i x' hof
   obtain⟨n',hn',hx0⟩:=Co hix
   have hnn:n'=n:=by omega
   subst hnn
   obtain⟨v0,f2,hrv,hown,hn2,hl2,hfin⟩:=hg'.GI rt hget
   have hrv: .slice (some ⟨b,o0,none⟩) len cap=v0:=by have h1:=hrv t' rfl;have h2:g.hdr t'=.slice (some ⟨b,o0,none⟩) len cap:=hrt;rw[h1,hhdr,h2]
   obtain⟨b2,o2,cap2,arr,T',fr,f1,fx,f3,hv0,hblk,hth,hsz,hownx,hfp,hset⟩:=Q2 hown hx0
   rw[←hrv]at hv0
   simp only[Value.slice.injEq,aO,Addr.mk.injEq]at hv0
   obtain⟨⟨rfl,rfl,_⟩,_⟩:=hv0
   obtain⟨fh,⟨us,hcut,hrh⟩,hnh,hlh⟩:=hg'.hands 0 _ _ rfl
   have hul:=hrh.length
   have hfitu:off+us.length≤e'.size:=by omega
   have hsz':(o0+n'*e'.size)+e'.size≤arr.size:=by rw[bQ,dx]at hsz;omega
   have hrelx:=lB (c:=bH C g' st' w) hownx
   obtain⟨k1,k2,k3,hkx,r1,r2,r3⟩:=hrelx.PC off us.length
   have hf2n:=hn2
   rw[hfp]at hf2n
   have hnb:=List.nodup_cons.1 hf2n
   have hfh2:∀c∈fh,c∉f2:=by intro c hc hm;have h1:=hlh c hc;rw[hl2 c hm]at h1;cases rt<;>cases h1
   let w':=ns w b (cW arr ((o0+n'*e'.size)+off) us) T' fr
   have hbs:=gU hblk
   have hkb:∀c,c≠b→w'.heap[c]?=w.heap[c]?:=λc hc=>ig hc
   have hsolid:∀u∈us,u.oneCell'=true:=by
    have hsp:aV (bH C g' st' w) (((arr.toList.drop (o0+n'*e'.size)).take e'.size).take off++us++((arr.toList.drop (o0+n'*e'.size)).take e'.size).drop (off+us.length))
     (cd (cellsOf e' (.own none) x0) off vs) (k1++fh++k3):=by
     have e2:cd (cellsOf e' (.own none) x0) off vs=(cellsOf e' (.own none) x0).take off++vs++(cellsOf e' (.own none) x0).drop (off+us.length):=by simp only[cd];rw[hul]
     rw[e2]
     exact(r1.append hrh).append r3
    obtain⟨q1,q2,hq,hq1,hq2⟩:=jf hsp hof;have hlen2:(((arr.toList.drop (o0+n'*e'.size)).take e'.size).take off++us++((arr.toList.drop (o0+n'*e'.size)).take e'.size).drop (off+us.length)).length=e'.size:=by rw[hsp.length,wY (by rw[gy];omega),gy]
    rw[bz (by omega)]at hq1;intro u hu;exact cR.iw hq1 u (by simp[hu])
   have hrunS:=uK (P:=P) (w:=w) (hE T sh hT) b ((o0+n'*e'.size)+off) hcut (by omega) hsolid hblk hth (by omega)
   have hrun:(execOp a.eval o).run P w=.ok .skip w':=by simp only[execOp,ho,hv,Instr.storeAt,Instr.sureAddr,Sem.run_bind,Sem.run_pure,Result.andThen_ok];show((storeVar T ⟨b,ob+off,none⟩ (a.eval x)).run P w).andThen _=_;rw[hob,hrunS];rfl
   have hle:(bH C g' st' w).Le ⟨g'.hw,g'.β,C.A,g'.hdr,gJ st',st'.ep+1,dS st',w'⟩:=by
    refine⟨rfl,λ_ ht=>⟨ht,rfl⟩,λk c o u hA hu=>?_,Nat.le_succ _,λ_ hs=>⟨hs,rfl⟩,λhe=>absurd he (Nat.succ_ne_self _)⟩;have hne:c≠b:=by rintro rfl;exact hg'.zq (hl2 c (by rw[hfp];simp)) k o hA
    rw[World.cell?_of_block (a:=⟨c,o,none⟩) (hkb c hne)];exact hu
   have hkx':∀c∈fx,c≠b:=by rintro c hc rfl;exact hnb.1 (by simp[hc])
   have hsp:aV ⟨g'.hw,g'.β,C.A,g'.hdr,gJ st',st'.ep+1,dS st',w'⟩
    (((cW arr ((o0+n'*e'.size)+off) us).toList.drop (o0+n'*e'.size)).take e'.size) (cd (cellsOf e' (.own none) x0) off vs) (k1++fh++k3):=by
    have e2:cd (cellsOf e' (.own none) x0) off vs=(cellsOf e' (.own none) x0).take off++vs++(cellsOf e' (.own none) x0).drop (off+us.length):=by simp only[cd];rw[hul]
    rw[e2,yp hfitu hsz']
    refine((r1.mono hle (λc hc=>⟨hkb c (hkx' c (by rw[hkx];simp[hc])),rfl⟩)).append
     (hrh.mono hle (λc hc=>⟨hkb c (λe=>hfh2 c hc (by rw[hfp,e];simp)),rfl⟩))).append
     (r3.mono hle (λc hc=>⟨hkb c (hkx' c (by rw[hkx];simp[hc])),rfl⟩))
   obtain⟨q1,q2,hq,hq1,hq2⟩:=jf hsp hof
   have hlen2:(((cW arr ((o0+n'*e'.size)+off) us).toList.drop (o0+n'*e'.size)).take e'.size).length=e'.size:=by rw[hsp.length,wY (by rw[gy];omega),gy]
   rw[cc (by omega)]at hq2
   have hq2':q2=[]:=hq2
   subst hq2'
   rw[bz (by omega)]at hq1
   rw[ba]at hq
   have hownN:=hset w' us off x' q1 hfitu (pA hbs) (λc hc=>hkb c (λe=>hnb.1 (by rw[←e];rcases al.1 hc with k|k<;>simp[k]))) hq1
   have hmem:∀c∈b::(f1++q1++f3),c∈f2∨c∈fh:=by intro c hc;rw[←hq]at hc;simp only[bl,al]at hc;rw[hfp,hkx];simp only[bl,al];rcases hc with hc|((hc|((hc|hc)|hc))|hc)<;>simp[hc]
   have hnd:(b::(f1++q1++f3)).Nodup:=by
    have hx2:=hnb.2;rw[hkx]at hx2;rw[aC]at hx2;have m1:=List.nodup_append.1 hx2;have m2:=List.nodup_append.1 m1.2.1;have m2a:=m2.1;rw[aC]at m2a;have m3:=List.nodup_append.1 m2a;have m4:=List.nodup_append.1 m3.2.1;have inx:∀c,(c∈f1∨c∈k1∨c∈k3∨c∈f3)→c∈f2:=by intro c hc;rw[hfp,hkx];simp only[bl,al];rcases hc with hc|hc|hc|hc<;>simp[hc]
    rw[←hq];refine List.nodup_cons.2 ⟨λhm=>?_,?_⟩;simp only[al]at hm;rcases hm with(hm|((hm|hm)|hm))|hm;exact hnb.1 (by simp[hm]);exact hnb.1 (by rw[hkx];simp[hm]);exact hfh2 b hm (by rw[hfp];simp);exact hnb.1 (by rw[hkx];simp[hm]);exact hnb.1 (by simp[hm]);rw[aC];refine List.nodup_append.2 ⟨m1.1,List.nodup_append.2 ⟨?_,m2.2.1,?_⟩,?_⟩;rw[aC];refine List.nodup_append.2 ⟨m3.1,List.nodup_append.2 ⟨hnh,m4.2.1,?_⟩,?_⟩;rintro c hc d hd rfl;exact hfh2 c hc (inx c (by simp[hd]));rintro c hc d hd rfl;rcases al.1 hd with hd|hd;exact hfh2 c hd (inx c (by simp[hc]));exact m3.2.2 c hc c (aI _ hd) rfl;rintro c hc d hd rfl;simp only[al]at hc;rcases hc with(hc|hc)|hc;exact m2.2.2 c (by simp[hc]) c hd rfl;exact hfh2 c hc (inx c (by simp[hd]));exact m2.2.2 c (by simp[hc]) c hd rfl;rintro c hc d hd rfl;simp only[al]at hd;rcases hd with((hd|hd)|hd)|hd;exact m1.2.2 c hc c (by simp[hd]) rfl;exact hfh2 c hd (inx c (by simp[hc]));exact m1.2.2 c hc c (by simp[hd]) rfl;exact m1.2.2 c hc c (by simp[hd]) rfl
   have hfrw:Fr (λc=>ca (g'.lab c)∨c∈f2) w w':=⟨rfl,rfl,rfl,by show _≤(ns _ _ _ _ _).heap.size;rw[gN];exact aQ _,λc _ hc=>hkb c (λe=>hc (.inr (by rw[hfp,e];simp)))⟩
   obtain⟨g2,hg2⟩:=hfin w' g'.hw (xs.set n' x') (b::(f1++q1++f3)) hownN hnd (λc hc=>by rcases hmem c hc with k|k;exact⟨by show _<(ns _ _ _ _ _).heap.size;rw[gN];exact(hg'.labs c _ (hl2 c k)).1,.inl k⟩;exact⟨by show _<(ns _ _ _ _ _).heap.size;rw[gN];exact(hg'.labs c _ (hlh c k)).1,.inr (by rw[hlh c k];rfl)⟩) hfrw (λ_ _ _ _ _=>rfl)
   refine⟨undef,_,_,.inr ⟨rfl,hrun⟩,?_,hk⟩
   rw[hd]
   have hin':i.toNat=n':=by omega
   rw[hin']
   exact⟨g2,hg2⟩
  ·cases hk
 cases hk;cases hk;rename_i t' i' q e' xs hget;split at hk;rename_i hee;subst hee;split at hk;rename_i hc;obtain⟨rfl,rfl⟩:=hc;simp only at hk;cases hix:KO xs i' i with|none=>rw[hix]at hk;simp[aa]at hk|some x0=>obtain⟨rfl,hix2⟩:=NZ hix;rw[hix]at hk;simp only[aa]at hk;split at hk;rename_i x' hof;exact DJ hE hd ho hT hlen hg' (by rw[hv,hob,db]) (by rw[hhdr];exact hrt) hin hget hof hk;cases hk
 cases hk;cases hk;cases hk
theorem LW {E:Env}(hE:fC P E.ty){o:Oper}{T:TypeId}{p x:Operand}(hd:o.dst=none)(ho:o.op=.store T p x)(h:iD C st a w){K:AS→Option R}(hk:py E T p x st K=some r):ik P C o a w K r:=by unfold py at hk;split at hk;rename_i sh s off hT hp;split at hk;rename_i gg vs st' htk;split at hk;rename_i cs hbx;split at hk;rename_i hlen;split at hk;rename_i hfit;exact D8 hE hd ho h hT hp htk hbx hlen.1 hlen.2 hfit hk;cases hk;cases hk;cases hk;cases hk;rename_i sh ep rt t e y i off hT hp;split at hk;rename_i gg vs st' htk;split at hk;rename_i hc;exact Ea hE hd ho h hT hp htk hc.1 hc.2 hk;cases hk;cases hk;cases hk
end Go.Dn
