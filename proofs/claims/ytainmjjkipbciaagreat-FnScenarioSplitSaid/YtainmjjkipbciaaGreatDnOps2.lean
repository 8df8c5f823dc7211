import Derived.Test.YtainmjjkipbciaaGreatDnOps1
/- Part 2: loads and stores. -/
namespace Go.Dn
open Go.RowKit
variable {P:Program} {C:Ctx} {st:AS} {a:Act} {w:World} {R:Type} {r:R}
variable {gg:Bool} {e:CT} {fl:pj} {g:Gh} {i:Int} {n off:Nat} {hw:Nat->Nat} {p:Operand} {c:RC} {sh:Shape} {T:TypeId} {v:Value} {cs vs:aw AC} {fp fp0:fg}
theorem bE.mid {vs:ir}{xs:aw AC}(h:bE c vs xs fp)(off n:Nat): ∃f1 f2 f3,fp=f1++f2++f3/\bE c (vs.take off) (xs.take off) f1/\bE c ((vs.drop off).take n) ((xs.drop off).take n) f2/\bE c (vs.drop (off+n)) (xs.drop (off+n)) f3:=by obtain⟨f1,g1,rfl,r1,r2⟩:=h.split off;obtain⟨f2,f3,rfl,r3,r4⟩:=r2.split n;rw[eF,eF]at r4;exact⟨f1,f2,f3,by simp,r1,r3,r4⟩
theorem MH {w:World}{b:Nat}{arr:Array Value}{fr:Nat×Nat}(hb:w.heap[b]?=some (.cells arr T fr))(off n:Nat): ∀j v,((arr.toList.drop off).take n)[j]?=some v->w.cell? ⟨b,off+j,none⟩=some v:=by intro j v hv;rw[dA]at hv;split at hv;rw[bM,cl]at hv;rw[nI hb];exact hv;cases hv
theorem yT {s:Nat}(h:fR c v (.val false [.ptr s off]) fp):v=.pointer (some ⟨c.β s,off,none⟩):=(ej h).1
theorem dP.afR (h:dP C g st a w [])(s:Nat)(hb:st.boxes[s]?=some (some cs))(off n:Nat)(gx:off+n<=cs.length)(fE:∀arr T fr,w.heap[g.β s]?=some (.cells arr T fr)->Cut gg v ((arr.toList.drop off).take n)): ∃g',dP C g' (st.eD s (some (dZ cs off (aQ st.ep ((cs.drop off).take n))))) a w [(v,.val gg ((cs.drop off).take n))]:=by
 obtain⟨arr,T,fr,fp,jJ,qM,hr,hn,uz,hl,EM,EO⟩:=h.boxes s cs hb;obtain⟨f1,f2,f3,rfl,r1,r2,r3⟩:=hr.mid off n;have BB:=hn;rw[aP]at BB;have n1:=aI.1 BB;have n2:=aI.1 n1.2.1;have wV:s<st.boxes.length:=(aG.1 hb).1;let g':Gh:={g with ef:=λb=>if b∈f2 then some (.hand 0) else g.ef b}
 let bK:AS:=st.eD s (some (dZ cs off (aQ st.ep ((cs.drop off).take n))));have hle:(cG C g st w).Le (cG C g' bK w):=No rfl (λ_ _ _ _ _ hv=>hv) (λ_ _=>rfl) (λ_ _ _ ho hu=>⟨ho,hu⟩);have T1:∀b y,g.ef b=some y->b∉f2->g'.ef b=some y:=by intro b y hb hm;show(if b∈f2 then _ else _)=_;rw[aH hm];exact hb
 have It:∀b y,y≠ .box s->g.ef b=some y->b∉f2:=λb y hy hb hm=>hy (by have:=hl b (by simp[hm]);rw[hb]at this;simpa using this);refine⟨g',h.step (λy=>y≠ .box s) hle h.defers h.size (by show(st.eD s _).boxes.length=st.slots.length;rw[jH,aC];exact h.bsize) h.frame ?_ (λb y hy hb=>⟨T1 b y hb (It b y hy hb),rfl,rfl⟩) ?_ ?_ ?_ (.inl ⟨by simp,rfl⟩)⟩;intro b y hy;have QE:(if b∈f2 then some (jx.hand 0) else g.ef b)=some y:=hy;by_cases hm:b∈f2;exact h.fS b _ (hl b (by simp[hm]));rw[aH hm]at QE;exact h.fS b y QE;exact λi av hi=> .inl ⟨by simp,hi,rfl⟩;intro t po ht;have T6:(st.boxes.set s (some (dZ cs off (aQ st.ep ((cs.drop off).take n)))))[t]?=some (some po):=by rw[<-jH];exact ht
 by_cases rH:t=s;subst rH;rw[bu]at T6;simp only[bP,wV]at T6;simp at T6;subst T6;have GH:dZ cs off (aQ st.ep ((cs.drop off).take n))=cs.take off++aQ st.ep ((cs.drop off).take n)++cs.drop (off+n):=by simp only[dZ,aQ,da,aZ,aL];rw[gL (by omega)]
 refine .inr ⟨arr,T,fr,f1++f3,jJ,qM,?_,?_,?_,?_,?_,EO⟩;have e:arr.toList=arr.toList.take off++(arr.toList.drop off).take n++arr.toList.drop (off+n):=by rw[<-eF,aP,cb,cb]
 have hm1:=r1.mono hle (λb _=>⟨rfl,rfl⟩);have hm2:=(r2.aQ).mono hle (by simp);have hm3:=r3.mono hle (λb _=>⟨rfl,rfl⟩);have hm4:=(hm1.append hm2).append hm3;rw[<-e,bR]at hm4;have e3:cs.take off++aQ (cG C g st w).ep ((cs.drop off).take n)++cs.drop (off+n)=dZ cs off (aQ st.ep ((cs.drop off).take n)):=GH.symm;rw[e3]at hm4;exact hm4;refine aI.2 ⟨n1.1,n2.2.1,?_⟩;rintro b hb c hc rfl;exact n1.2.2 b hb b (bj _ hc) rfl;intro hm;have hm':g.β t∈f1++f3:=hm;refine uz ?_;rcases ay.1 hm' with k|k;exact bw _ (bw _ k);exact bj _ k;intro b hb;refine T1 b _ (hl b (by simp at hb⊢;rcases hb with hb|hb<;>simp[hb])) ?_;intro hm;rcases ay.1 hb with hb|hb;exact n1.2.2 b hb b (bw _ hm) rfl;exact n2.2.2 b hm b hb rfl;refine T1 _ _ EM (λhm=>uz ?_);have hm':g.β t∈f2:=hm;exact bw _ (bj _ hm');rw[aR (cM rH)]at T6;exact .inl ⟨by simpa using rH,T6,rfl⟩;intro k u av hk;cases k with
 |zero=>simp only[cr,ba,Prod.mk.injEq]at hk;obtain⟨rfl,rfl⟩:=hk;refine .inr ⟨f2,⟨_,fE arr T fr jJ,r2.mono hle (λb _=>⟨rfl,rfl⟩)⟩,n2.1,λb hb=>?_⟩;show(if b∈f2 then _ else _)=_;rw[aF hb]
 |succ k=>simp at hk
theorem gB.header {xs:aw e.D}(r:gB c v (.sl fl e xs) fp):∃o n k,v=.slice o n k/\n=xs.length:=by
 cases fl with
 |own t=>obtain⟨⟨u,hu,h⟩,_⟩:=r;simp at hu;subst hu;rcases h with⟨⟨_,rfl⟩,rfl,_⟩|⟨b,o0,cap,arr,T,fr,fps,rfl,_⟩;exact⟨_,_,_,rfl,rfl⟩;exact⟨_,_,_,rfl,rfl⟩
 |arg _=>obtain⟨_,u,hu,h⟩:=r;simp at hu;subst hu;rcases h with⟨⟨ad,rfl⟩,rfl⟩|⟨b,o,cap,rfl,_⟩;exact⟨_,_,_,rfl,rfl⟩;exact⟨_,_,_,rfl,rfl⟩
 |loc ep pv=>exact r.2.2.1
 |nest _ _ _ _ _ _=>exact r.2.2.1
 |part _ _ _ _=>exact r.2.2.1
 |fa _ _ _=>obtain⟨_,⟨k,_,b,o0,cap,arr,T,fr,fps,rfl,_⟩,_⟩:=r;exact⟨_,_,_,rfl,rfl⟩
theorem KT {b o0 len cap t:Nat}{rt:jW}{e:CT}(hi:c.iss t)(hn:i=n)(hh:c.hdr t=.slice (some ⟨b,o0,none⟩) len cap)(hl:n<len):∀(cs:aw AC)(p:Nat){vs:ir},bE c vs cs []->
 (∀j u,vs[j]?=some u->c.S b (o0+n*e.size+(p+j))/\c.w.cell? ⟨b,o0+n*e.size+(p+j),none⟩=some u)->bE c vs (PT c.ep rt t e i p cs) []
 |[],_,vs,h,_=>by cases vs<;>exact h
 |x::cs,p,vs,h,hc=>by
  cases vs with
  |nil=>exact h.elim
  |cons v vs=>
   obtain⟨f1,f2,hf,h1,h2⟩:=h;have e1:f1=[]:=by have:=hf.symm;simp at this;exact this.1
   have e2:f2=[]:=by have:=hf.symm;simp at this;exact this.2
   subst e1;subst e2;have sI:=KT (rt:=rt) (e:=e) hi hn hh hl cs (p+1) h2 (λj u hu=>by have:=hc (j+1) u (by simpa using hu);rwa[show p+(j+1)=p+1+j by omega]at this);have hv:=hc 0 v rfl;cases x with|sl fl e' xs=>refine⟨[],[],rfl,⟨rfl,aU _,?_,λ_=>⟨hi,n,b,o0,len,cap,hn,hh,hl,?_,?_⟩⟩,sI⟩;exact gB.header h1;have:=hv.1;rwa[dT]at this;have:=hv.2;rwa[dT]at this|int _ _=>exact⟨[],[],rfl,h1,sI⟩|bool _=>exact⟨[],[],rfl,h1,sI⟩|str _=>exact⟨[],[],rfl,h1,sI⟩|jn=>exact⟨[],[],rfl,h1,sI⟩|ptr _ _=>exact⟨[],[],rfl,h1,sI⟩|zk _ _ _ _ _=>exact⟨[],[],rfl,h1,sI⟩|fn _=>exact⟨[],[],rfl,h1,sI⟩|un=>exact⟨[],[],rfl,h1,sI⟩|bot=>exact⟨[],[],rfl,h1,sI⟩
theorem ajI {w:World}{xs:aw e.D}(h:eZ hw w (.sl e) [v] xs fp0){x:e.D}(hx:xs[n]?=some x): ∃b o0 cap arr T fr fx,v=.slice (some ⟨b,o0,none⟩) xs.length cap/\w.heap[b]?=some (.cells arr T fr)/\eZ hw w e ((arr.toList.drop (o0+n*e.size)).take e.size) x fx:=by obtain⟨u,hu,h⟩:=h;simp at hu;subst hu;have HJ:n<xs.length:=(aG.1 hx).1;rcases h with⟨⟨_,rfl⟩,rfl,rfl⟩|⟨b,o0,cap,arr,T,fr,fps,rfl,hb,qM,hs,hc,hh,rfl,hl,hr⟩;simp at hx;have RY:fps[n]?=some fps[n]:=al (by omega);exact⟨b,o0,cap,arr,T,fr,_,rfl,hb,hr n x _ hx RY⟩
theorem Wf {E:Env}(hE:ja P E.ty){o:Oper}(ho:o.op=.load T p)(hg:dP C g st a w []){K:AS->ax R}{x:e.D}(hT:iQ E.ty T=some sh)(sU:gB (cG C g st w) (a.eval p) (.zk fl e x i off) [])(hk:Be o sh fl e i off st K=some r):lS P C o a w K r:=by
 unfold Be at hk;split at hk;rename_i ep rt t;obtain⟨_,b,ob,hv,_,_,DF⟩:=sU;obtain⟨_,n,o0,len,cap,sv,hrt,HJ,hob⟩:=DF rt t rfl;split at hk;rename_i t' e' ys gI;split at hk;rename_i he;subst he;split at hk;rename_i hc;obtain⟨rfl,gx⟩:=hc;simp only at hk;cases Cf:idx ys i with
 |none=>rw[Cf]at hk;simp[aa]at hk
 |some y=>
  rw[Cf]at hk;simp only[aa]at hk;have hyn:ys[n]?=some y:=by rw[sv]at Cf;exact Cf
  obtain⟨v0,f2,hh,gE,_,_,_⟩:=hg.P8 rt gI;obtain⟨b2,o2,Uq,arr,T',fr,fx,Ks,jJ,Kn⟩:=ajI gE hyn;have h1:=hh t' rfl;have h2:g.hdr t'=.slice (some ⟨b,o0,none⟩) len cap:=hrt;rw[h2,Ks]at h1;simp only[Value.slice.injEq,ba,Addr.mk.injEq]at h1;obtain⟨⟨rfl,rfl,_⟩,_⟩:=h1;have hln:((arr.toList.drop (o2+n*e'.size)).take e'.size).length=e'.size:=eZ.length Kn;have Fh:iS w (cG C g st w).S e' ((arr.toList.drop (o2+n*e'.size)).take e'.size) y:=eZ.rep (λb o ho=> .inr ho) Kn;have eK:bE (cG C g st w) ((arr.toList.drop (o2+n*e'.size)).take e'.size) (cellsOf e' (.loc st.ep none) y) []:=Df (c:=cG C g st w) Fh;have zM:∀j u,((((arr.toList.drop (o2+n*e'.size)).take e'.size).drop off).take sh.ct.size)[j]?=some u->w.cell? ⟨b2,ob+off+j,none⟩=some u:=by intro j u hu;rw[dA]at hu;split at hu;rw[bM,dA]at hu;split at hu;rw[bM,cl]at hu;rw[nI jJ,hob,ft];exact hu;cases hu;cases hu
  obtain⟨v,ec,fE⟩:=we (hE T sh hT) b2 (ob+off) ((((arr.toList.drop (o2+n*e'.size)).take e'.size).drop off).take sh.ct.size) (by simp only[aZ,aL]at hln⊢;omega) zM;have DG:(execOp a.eval o).run P w=.ok (.value v) w:=by simp only[execOp,ho,hv,Instr.loadAt,Instr.sureAddr,Sem.run_bind,Sem.run_pure,Result.andThen_ok];show((loadVar T ⟨b2,ob+off,none⟩).run P w).andThen _=_;rw[ec];rfl
  obtain⟨f1,f2',f3,hf,_,r2,_⟩:=eK.mid off sh.ct.size;have Ax:f2'=[]:=by cases f2' with|nil=>rfl|cons y ys=>simp at hf
  subst Ax;refine⟨_,_,_,.inl DG,⟨g,hg.quiet o.dst ?_⟩,hk⟩;exact⟨_,fE,r2⟩
 cases hk;cases hk;cases hk;cases hk
theorem B8 {fps:aw fg}{f:fg}(h:fps[n]?=some f): fps.flatten=(fps.take n).flatten++f++(fps.drop (n+1)).flatten/\∀f',(fps.set n f').flatten=(fps.take n).flatten++f'++(fps.drop (n+1)).flatten:=by
 have hn:n<fps.length:=(aG.1 h).1;have hf:fps[n]=f:=by rw[al hn]at h;simpa using h
 constructor
 ·conv=>lhs;rw[<-cb n fps,cd hn,hf]
  simp
 intro f';rw[List.set_eq_take_append_cons_drop,aF hn];simp
theorem acz {w:World}{xs:aw e.D}(h:eZ hw w (.sl e) [v] xs fp0){x:e.D}(hx:xs[n]?=some x): ∃b o0 cap arr T fr f1 fx f3,v=.slice (some ⟨b,o0,none⟩) xs.length cap/\w.heap[b]?=some (.cells arr T fr)/\eZ hw w e ((arr.toList.drop (o0+n*e.size)).take e.size) x fx/\ fp0=b::(f1++fx++f3)/\aaQ hw w e v xs n (b::(f1++f3)):=by obtain⟨u,hu,h⟩:=h;simp at hu;subst hu;have HJ:n<xs.length:=(aG.1 hx).1;rcases h with⟨⟨_,rfl⟩,rfl,rfl⟩|⟨b,o0,cap,arr,T,fr,fps,rfl,hb,qM,hs,hc,hh,rfl,hl,hr⟩;simp at hx;have RY:fps[n]?=some fps[n]:=al (by omega);have EL:=B8 RY;refine⟨b,o0,cap,arr,T,fr,(fps.take n).flatten,fps[n],(fps.drop (n+1)).flatten,rfl,hb,hr n x _ hx RY,by rw[EL.1],?_⟩;refine⟨b,o0,cap,arr,T,fr,fps.set n [],rfl,hb,qM,hs,hc,hh,by rw[EL.2];simp,by simp[hl],HJ,by rw[bu];simp[hl,HJ],λi x' f hi zt hf=>?_⟩;rw[aR (cM hi)]at hf;exact hr i x' f zt hf
theorem Qv {E:Env}(hE:ja P E.ty){o:Oper}(ho:o.op=.load T p)(hg:dP C g st a w []){K:AS->ax R}{x:e.D}(hT:iQ E.ty T=some sh)(sU:gB (cG C g st w) (a.eval p) (.zk fl e x i off) [])(hk:wq o sh fl e i off st K=some r):lS P C o a w K r:=by
 unfold wq at hk;split at hk;rename_i ep rt t;obtain⟨_,b,ob,hv,_,_,DF⟩:=sU;obtain⟨_,n,o0,len,cap,sv,hrt,HJ,hob⟩:=DF rt t rfl;split at hk;rename_i t' e' ys gI;split at hk;rename_i he;subst he;split at hk;rename_i hc;obtain⟨rfl,rfl,HH⟩:=hc;simp only at hk;cases Cf:idx ys i with
 |none=>rw[Cf]at hk;simp[aa]at hk
 |some y=>
  rw[Cf]at hk;simp only[aa]at hk;have hyn:ys[n]?=some y:=by rw[sv]at Cf;exact Cf
  obtain⟨v0,f2,M7,BL,_,ph⟩:=hg.acN rt (by simp) gI;obtain⟨b2,o2,Uq,arr,T',fr,f1,fx,f3,Ks,jJ,Kn,Bw,amE⟩:=acz M7.1 hyn;have h1:=(M7.2 t' rfl).2;have h2:g.hdr t'=.slice (some ⟨b,o0,none⟩) len cap:=hrt;have LR:v0=g.hdr t':=h1;rw[h2,Ks]at LR;simp only[Value.slice.injEq,ba,Addr.mk.injEq]at LR;obtain⟨⟨rfl,rfl,_⟩,_⟩:=LR;have jJ:w.heap[b2]?=some (.cells arr T' fr):=jJ;have hln:((arr.toList.drop (o2+n*e'.size)).take e'.size).length=e'.size:=eZ.length Kn;have zM:∀j u,((arr.toList.drop (o2+n*e'.size)).take e'.size)[j]?=some u->w.cell? ⟨b2,ob+0+j,none⟩=some u:=by intro j u hu;rw[dA]at hu;split at hu;rw[bM,cl]at hu;rw[nI jJ,hob,dT];exact hu;cases hu
  obtain⟨v,ec,fE⟩:=we (hE T sh hT) b2 (ob+0) ((arr.toList.drop (o2+n*e'.size)).take e'.size) (by rw[hln,HH]) zM;have DG:(execOp a.eval o).run P w=.ok (.value v) w:=by simp only[execOp,ho,hv,Instr.loadAt,Instr.sureAddr,Sem.run_bind,Sem.run_pure,Result.andThen_ok];show((loadVar T ⟨b2,ob+0,none⟩).run P w).andThen _=_;rw[ec];rfl
  rw[Bw]at BL;have uz:=db.1 BL;have hn3:=uz.2;rw[aP]at hn3;have m1:=aI.1 hn3;have m2:=aI.1 m1.2.1;obtain⟨g',mX⟩:=ph (.sl (.fa (some t') i (some st.ep)) e' ys) (b2::(f1++f3)) fx v (.val sh.agg (cellsOf e' (.own none) y)) (λc' hle QC Ds wB=>by refine⟨λq hq=>?_,⟨n,sv,by rw[QC,Ds];exact amE⟩,λt ht=>?_⟩;simp at hq;subst hq;refine⟨by rw[wB];exact aU _,λ_=>?_⟩;refine eZ.rep (hw:=c'.hw) (fp:=f2) (λb o ho=> .inr ho) ?_;rw[QC,Ds];exact M7.1;simp at ht;subst ht;have h0:=M7.2 t' rfl;exact⟨(hle.hdr t' h0.1).1,by rw[(hle.hdr t' h0.1).2];exact h0.2⟩) (by refine db.2 ⟨λhm=>uz.1 (by rcases ay.1 hm with k|k<;>simp[k]),aI.2 ⟨m1.1,m2.2.1,?_⟩⟩;rintro c hc d hd rfl;exact m1.2.2 c hc c (bj _ hd) rfl) m2.1 (λc hc=>by rw[Bw];rcases cm.1 hc with rfl|hc;exact⟨by simp,λhm=>uz.1 (by simp[hm])⟩;rcases ay.1 hc with hc|hc;exact⟨by simp[hc],λhm=>m1.2.2 c hc c (bw _ hm) rfl⟩;exact⟨by simp[hc],λhm=>m2.2.2 c hm c hc rfl⟩) (λc hc=>by rw[Bw];simp[hc]) ⟨_,fE,xJ (c:=cG C g st w) Kn⟩;exact⟨_,_,_,.inl DG,dP.AW mX o.dst,hk⟩
 cases hk;cases hk;cases hk;cases hk
theorem Zr {E:Env}(hE:ja P E.ty){an:An}{o:Oper}(ho:o.op=.load T p)(h:mZ C st a w){K:AS->ax R}(hk:nS E an o T p st K=some r):lS P C o a w K r:=by
 unfold nS at hk;obtain⟨g,hg⟩:=id h;split at hk;rename_i sh s off hT hp;have sU:=hg.rd p;rw[hp]at sU;have sU:=yT sU;split at hk;rename_i cs jt;have jt:st.boxes[s]?=some (some cs):=by rw[dI]at jt;cases hq:st.boxes[s]? with|none=>rw[hq]at jt;simp at jt|some q=>rw[hq]at jt;simp at jt;rw[jt]
 split at hk;rename_i gx;obtain⟨arr,T',fr,fp,jJ,qM,hr,hn,uz,hl,EM,EO⟩:=hg.boxes s cs jt;have hlen:=hr.length;have ahV:=MH jJ off sh.ct.size;obtain⟨v,ec,fE⟩:=we (hE T sh hT) (g.β s) off ((arr.toList.drop off).take sh.ct.size) (by simp at hlen⊢;omega) ahV;have DG:(execOp a.eval o).run P w=.ok (.value v) w:=by simp only[execOp,ho,sU,Instr.loadAt,Instr.sureAddr,Sem.run_bind,Sem.run_pure,Result.andThen_ok];show((loadVar T ⟨g.β s,off,none⟩).run P w).andThen _=_;rw[ec];rfl
 split at hk;rename_i d hd;split at hk;obtain⟨g',mX⟩:=hg.afR s jt off sh.ct.size gx (gg:=sh.agg) (v:=v) (λaue T2 fr2 h2=>by rw[jJ]at h2;simp at h2;obtain⟨rfl,_⟩:=h2;exact fE);refine⟨_,_,_,.inl DG,?_,hk⟩;rw[hd];exact dP.AW mX (some d);refine⟨_,_,_,.inl DG,?_,hk⟩;rw[hd];refine⟨g,hg.quiet (some d) ⟨_,fE,?_⟩⟩;obtain⟨f1,f2,f3,_,_,r2,_⟩:=hr.mid off sh.ct.size;exact bE.borrow (c:=cG C g st w) (.box s) off r2;cases hk;cases hk;cases hk;rename_i sh fl e x i off hT hp;have sU:=hg.rd p;rw[hp]at sU;have sU:=ej sU;split at hk;exact Qv hE ho hg hT sU hk;split at hk;rename_i nL;split at hk;rename_i gx
 have key:∃b o cs,a.eval p=.pointer (some ⟨b,o+off,none⟩)/\(∀j v,cs[j]?=some v->w.cell? ⟨b,o+j,none⟩=some v)/\bE (cG C g st w) cs (cellsOf e fl.bare x) []/\
  ∀ep rt t,fl=.loc ep (some (rt,t))->(cG C g st w).iss t/\(∃n o0 len cap:Nat,i=n/\(cG C g st w).hdr t=.slice (some ⟨b,o0,none⟩) len cap/\n<len/\o=o0+n*e.size)/\∀j v,cs[j]?=some v->(cG C g st w).S b (o+j):=by
  cases fl with
  |own t=>exact sU.elim
  |nest _ _ _ _ _ _=>exact sU.elim
  |part _ _ _ _=>exact sU.elim
  |fa _ _ _=>exact sU.elim
  |arg _=>
   obtain⟨_,b,o,hv,cs,hc,hr⟩:=sU
   exact⟨b,o,cs,hv,λj v hj=>(hc j v hj).2,CV hr,λ_ _ _ he=>by cases he⟩
  |loc ep pv=>
   obtain⟨_,b,o,hv,h2,h3,h4⟩:=sU
   have wB:ep=st.ep:=by simpa[pj.live]using nL
   obtain⟨cs,hc,hr⟩:=h3 wB
   exact⟨b,o,cs,hv,λj v hj=>(hc j v hj).2,by simp only[pj.bare];rw[wB];exact Df hr,λep' rt t he=>by cases he;obtain⟨k1,k2⟩:=h4 rt t rfl;exact⟨k1,k2,λj v hj=>(hc j v hj).1⟩⟩
 obtain⟨b,ob,cs,hv,hc,eK,C8⟩:=key;have hlen:=eK.length;rw[ki]at hlen;obtain⟨v,ec,fE⟩:=we (hE T sh hT) b (ob+off) ((cs.drop off).take sh.ct.size) (by simp;omega) (λj u hu=>by rw[dA]at hu;split at hu;rw[bM]at hu;have:=hc _ _ hu;rwa[<-ft]at this;cases hu);have DG:(execOp a.eval o).run P w=.ok (.value v) w:=by simp only[execOp,ho,hv,Instr.loadAt,Instr.sureAddr,Sem.run_bind,Sem.run_pure,Result.andThen_ok];show((loadVar T ⟨b,ob+off,none⟩).run P w).andThen _=_;rw[ec];rfl
 obtain⟨f1,f2,f3,hf,_,r2,_⟩:=eK.mid off sh.ct.size;have Ax:f2=[]:=by cases f2 with|nil=>rfl|cons y ys=>simp at hf
 subst Ax;refine⟨_,_,_,.inl DG,⟨g,hg.quiet o.dst ?_⟩,hk⟩;refine⟨_,fE,?_⟩;unfold acn;split;rename_i d _ _ _ _;cases an.nest.contains d with|false=>exact r2|true=>simp only[ah];obtain⟨k1,⟨n,o0,len,cap,hi,hh,HJ,Iu⟩,hS⟩:=C8 _ _ _ rfl;refine KT (b:=b) (n:=n) (o0:=o0) (len:=len) (cap:=cap) k1 hi hh HJ _ off r2 (λj u hu=>?_);rw[dA]at hu;split at hu;rw[bM]at hu;rw[<-Iu];exact⟨hS _ _ hu,hc _ _ hu⟩;cases hu
 exact r2;cases hk;exact Wf hE ho hg hT sU hk;cases hk
theorem DX (h:off+vs.length<=cs.length):(dZ cs off vs).length=cs.length:=by simp[dZ];omega
theorem DZ {E:Env}(hE:ja P E.ty){o:Oper}{x:Operand}(hd:o.dst=none)(ho:o.op=.store T p x){K:AS->ax R}{s:Nat}{bK:AS}{g':Gh}(hT:iQ E.ty T=some sh)(sU:a.eval p=.pointer (some ⟨g'.β s,off,none⟩))(mX:dP C g' bK a w [(a.eval x,.val gg vs)])(jt:(nth bK.boxes s).getD none=some cs)(hlen:vs.length=sh.ct.size)(abM:vs.all AC.F1=true)(gx:off+sh.ct.size<=cs.length)(hk:K (bK.eD s (some (dZ cs off vs)))=some r):lS P C o a w K r:=by
 have jt:bK.boxes[s]?=some (some cs):=by rw[dI]at jt;cases hq:bK.boxes[s]? with|none=>rw[hq]at jt;simp at jt|some q=>rw[hq]at jt;simp at jt;rw[jt]
 obtain⟨arr,T',fr,fp,jJ,qM,hr,hn,uz,hl,EM,EO⟩:=mX.boxes s cs jt;obtain⟨fh,⟨us,fE,T5⟩,LS,R2⟩:=mX.hands 0 _ _ rfl;have h1:=T5.mh abM;have hul:=T5.length;have hal:=hr.length;have agb:off+us.length<=arr.size:=by simp at hal;omega
 have R7:=Bg (P:=P) (w:=w) (hE T sh hT) (g'.β s) off fE (by omega) h1 jJ qM agb;have ec:(execOp a.eval o).run P w=.ok .skip (sC w (g'.β s) (ew arr off us) T' fr):=by simp only[execOp,ho,sU,Instr.storeAt,Instr.sureAddr,Sem.run_bind,Sem.run_pure,Result.andThen_ok];show((storeVar T ⟨g'.β s,off,none⟩ (a.eval x)).run P w).andThen _=_;rw[R7];rfl
 have DD:=lp jJ;obtain⟨f1,f2,f3,rfl,r1,r2,r3⟩:=hr.mid off us.length;have BB:=hn;rw[aP]at BB;have n1:=aI.1 BB;have n2:=aI.1 n1.2.1;have L3:∀b∈fh,b≠g'.β s/\b∉f1++f2++f3:=by intro b hb;have M5:=R2 b hb;refine⟨λe=>?_,λhm=>?_⟩;rw[e,EM]at M5;cases M5;rw[hl b hm]at M5;cases M5
 have ahN:Fr (λb=>dE (g'.ef b)\/b=g'.β s) w (sC w (g'.β s) (ew arr off us) T' fr):=⟨rfl,rfl,rfl,by rw[kT];exact aU _,λb _ hb=>lO (λe=>hb (.inr e))⟩
 have ar4:∀t,(if t=s then g'.β s else g'.β t)=g'.β t:=by intro t;split<;>simp_all
 have hle:(cG C g' bK w).Le ⟨g'.hw,λt=>if t=s then g'.β s else g'.β t,C.A,g'.hdr,lT bK,bK.ep,iR bK,sC w (g'.β s) (ew arr off us) T' fr⟩:=by
  refine⟨rfl,λ_ ht=>⟨ht,rfl⟩,λk b o u hA hu=>?_,aU _,λt ht=>⟨ht,ar4 t⟩,λ_ b o u ho hu=>⟨ho,?_⟩⟩;have Az:b≠g'.β s:=by rintro rfl;exact mX.KI EM k o hA
  rw[World.cell?_of_block (a:=⟨b,o,none⟩) (lO Az)];exact hu;have Az:b≠g'.β s:=by rintro rfl;have Iu:o<g'.hw (g'.β s):=ho;rw[EO]at Iu;omega
  rw[World.cell?_of_block (a:=⟨b,o,none⟩) (lO Az)];exact hu
 have qS:∀b,b≠g'.β s->(sC w (g'.β s) (ew arr off us) T' fr).heap[b]?=w.heap[b]?:=λb hb=>lO hb;have eK:bE ⟨g'.hw,λt=>if t=s then g'.β s else g'.β t,C.A,g'.hdr,lT bK,bK.ep,iR bK,sC w (g'.β s) (ew arr off us) T' fr⟩ (ew arr off us).toList (dZ cs off vs) (f1++fh++f3):=by
  rw[tQ us arr off agb];have e2:dZ cs off vs=cs.take off++vs++cs.drop (off+us.length):=by simp only[dZ];rw[hul]
  rw[e2];refine((r1.mono hle (λb hb=>⟨qS b (λe=>uz (by rw[<-e];simp[hb])),rfl⟩)).append (T5.mono hle (λb hb=>⟨qS b (L3 b hb).1,rfl⟩))).append (r3.mono hle (λb hb=>⟨qS b (λe=>uz (by rw[<-e];simp[hb])),rfl⟩))
 have ahZ:(f1++fh++f3).Nodup:=by rw[aP];refine aI.2 ⟨n1.1,aI.2 ⟨LS,n2.2.1,?_⟩,?_⟩;rintro b hb c hc rfl;exact(L3 b hb).2 (by simp[hc]);rintro b hb c hc rfl;rcases ay.1 hc with hc|hc;exact(L3 b hc).2 (by simp[hb]);exact n1.2.2 b hb b (bj _ hc) rfl
 obtain⟨g2,_,Ek⟩:=mX.Uk s (bnew:=g'.β s) (hw':=g'.hw) (.inl ⟨rfl,EM⟩) ahN (uW DD) (λj hj=>qM j (by rwa[ik]at hj)) (by rw[kT];exact DD) EO
  (λ_ _ _ _ _=>rfl) (λb o u ho hu=>hle.Z5 rfl b o u ho hu) eK ahZ
  (by intro hm;simp only[ay]at hm
      rcases hm with(hm|hm)|hm
      ·exact uz (by simp[hm])
      ·exact(L3 _ hm).1 rfl
      ·exact uz (by simp[hm]))
  (by intro b hm;rw[kT];simp only[ay]at hm
      rcases hm with(hm|hm)|hm
      ·exact⟨(mX.fS b _ (hl b (by simp[hm]))).1,.inr (.inl (hl b (by simp[hm])))⟩
      ·exact⟨(mX.fS b _ (R2 b hm)).1,.inl (by rw[R2 b hm];rfl)⟩
      ·exact⟨(mX.fS b _ (hl b (by simp[hm]))).1,.inr (.inl (hl b (by simp[hm])))⟩)
 refine⟨undef,_,_,.inr ⟨rfl,ec⟩,?_,hk⟩;rw[hd];exact⟨g2,Ek⟩
theorem Mw {E:Env}(hE:ja P E.ty){o:Oper}{x:Operand}(hd:o.dst=none)(ho:o.op=.store T p x)(h:mZ C st a w){K:AS->ax R}{s:Nat}{bK:AS}(hT:iQ E.ty T=some sh)(hp:st.rd p=.val false [.ptr s off])(qT:st.take x=(.val gg vs,bK))(jt:(nth bK.boxes s).getD none=some cs)(hlen:vs.length=sh.ct.size)(abM:vs.all AC.F1=true)(gx:off+sh.ct.size<=cs.length)(hk:K (bK.eD s (some (dZ cs off vs)))=some r):lS P C o a w K r:=by obtain⟨g,hg⟩:=h;have sU:=hg.rd p;rw[hp]at sU;have sU:=yT sU;obtain⟨g',⟨GI,_⟩,mX⟩:=hg.aef x;rw[qT]at mX;exact DZ hE hd ho hT (by rw[GI];exact sU) mX jt hlen abM gx hk
end Go.Dn
