import Derived.Test.YtnmppgnbjfdffaaGreatDnOps1
/- Part 2: loads and stores. -/
namespace Go.Dn
open Go.RowKit
variable {P:Program} {C:Ctx} {st:AS} {a:Act} {w:World} {R:Type} {r:R}
variable {gg:Bool} {e:CT} {fl:pE} {g:Gh} {i:Int} {n off:Nat} {hw:Nat->Nat} {p:Operand} {c:RC} {sh:Shape} {T:TypeId} {v:Value} {cs vs:aw AC} {fp fp0:fw}
theorem bB.mid {vs:iq}{xs:aw AC}(h:bB c vs xs fp)(off n:Nat): ∃f1 f2 f3,fp=f1++f2++f3/\bB c (vs.take off) (xs.take off) f1/\bB c ((vs.drop off).take n) ((xs.drop off).take n) f2/\bB c (vs.drop (off+n)) (xs.drop (off+n)) f3:=by obtain⟨f1,g1,rfl,r1,r2⟩:=h.split off;obtain⟨f2,f3,rfl,r3,r4⟩:=r2.split n;rw[eH,eH]at r4;exact⟨f1,f2,f3,by simp,r1,r3,r4⟩
theorem MT {w:World}{b:Nat}{arr:Array Value}{fr:Nat×Nat}(hb:w.heap[b]?=some (.cells arr T fr))(off n:Nat): ∀j v,((arr.toList.drop off).take n)[j]?=some v->w.cell? ⟨b,off+j,none⟩=some v:=by intro j v hv;rw[dA]at hv;split at hv;rw[bI,cj]at hv;rw[nU hb];exact hv;cases hv
theorem zy {s:Nat}(h:fR c v (.val false [.ptr s off]) fp):v=.pointer (some ⟨c.β s,off,none⟩):=(ew h).1
theorem dM.afv (h:dM C g st a w [])(s:Nat)(hb:st.boxes[s]?=some (some cs))(off n:Nat)(gw:off+n<=cs.length)(fi:∀arr T fr,w.heap[g.β s]?=some (.cells arr T fr)->Cut gg v ((arr.toList.drop off).take n)): ∃g',dM C g' (st.eF s (some (dZ cs off (aR st.ep ((cs.drop off).take n))))) a w [(v,.val gg ((cs.drop off).take n))]:=by
 obtain⟨arr,T,fr,fp,jL,qZ,hr,hn,uJ,hl,Fa,Fe⟩:=h.boxes s cs hb;obtain⟨f1,f2,f3,rfl,r1,r2,r3⟩:=hr.mid off n;have BP:=hn;rw[aQ]at BP;have n1:=aI.1 BP;have n2:=aI.1 n1.2.1;have xm:s<st.boxes.length:=(aF.1 hb).1;let g':Gh:={g with ej:=λb=>if b∈f2 then some (.hand 0) else g.ej b}
 let bH:AS:=st.eF s (some (dZ cs off (aR st.ep ((cs.drop off).take n))));have hle:(cH C g st w).Le (cH C g' bH w):=NC rfl (λ_ _ _ _ _ hv=>hv) (λ_ _=>rfl) (λ_ _ _ ho hu=>⟨ho,hu⟩);have TH:∀b y,g.ej b=some y->b∉f2->g'.ej b=some y:=by intro b y hb hm;show(if b∈f2 then _ else _)=_;rw[aH hm];exact hb
 have I8:∀b y,y≠ .box s->g.ej b=some y->b∉f2:=λb y hy hb hm=>hy (by have:=hl b (by simp[hm]);rw[hb]at this;simpa using this);refine⟨g',h.step (λy=>y≠ .box s) hle h.defers h.size (by show(st.eF s _).boxes.length=st.slots.length;rw[jJ,aC];exact h.bsize) h.frame ?_ (λb y hy hb=>⟨TH b y hb (I8 b y hy hb),rfl,rfl⟩) ?_ ?_ ?_ (.inl ⟨by simp,rfl⟩)⟩;intro b y hy;have Qz:(if b∈f2 then some (jy.hand 0) else g.ej b)=some y:=hy;by_cases hm:b∈f2;exact h.fS b _ (hl b (by simp[hm]));rw[aH hm]at Qz;exact h.fS b y Qz;exact λi av hi=> .inl ⟨by simp,hi,rfl⟩;intro t pH ht;have TL:(st.boxes.set s (some (dZ cs off (aR st.ep ((cs.drop off).take n)))))[t]?=some (some pH):=by rw[<-jJ];exact ht
 by_cases rU:t=s;subst rU;rw[br]at TL;simp only[bN,xm]at TL;simp at TL;subst TL;have Hf:dZ cs off (aR st.ep ((cs.drop off).take n))=cs.take off++aR st.ep ((cs.drop off).take n)++cs.drop (off+n):=by simp only[dZ,aR,da,aY,aM];rw[gL (by omega)]
 refine .inr ⟨arr,T,fr,f1++f3,jL,qZ,?_,?_,?_,?_,?_,Fe⟩;have e:arr.toList=arr.toList.take off++(arr.toList.drop off).take n++arr.toList.drop (off+n):=by rw[<-eH,aQ,cl,cl]
 have hm1:=r1.mono hle (λb _=>⟨rfl,rfl⟩);have hm2:=(r2.aR).mono hle (by simp);have hm3:=r3.mono hle (λb _=>⟨rfl,rfl⟩);have hm4:=(hm1.append hm2).append hm3;rw[<-e,bV]at hm4;have e3:cs.take off++aR (cH C g st w).ep ((cs.drop off).take n)++cs.drop (off+n)=dZ cs off (aR st.ep ((cs.drop off).take n)):=Hf.symm;rw[e3]at hm4;exact hm4;refine aI.2 ⟨n1.1,n2.2.1,?_⟩;rintro b hb c hc rfl;exact n1.2.2 b hb b (bj _ hc) rfl;intro hm;have hm':g.β t∈f1++f3:=hm;refine uJ ?_;rcases ay.1 hm' with k|k;exact bt _ (bt _ k);exact bj _ k;intro b hb;refine TH b _ (hl b (by simp at hb⊢;rcases hb with hb|hb<;>simp[hb])) ?_;intro hm;rcases ay.1 hb with hb|hb;exact n1.2.2 b hb b (bt _ hm) rfl;exact n2.2.2 b hm b hb rfl;refine TH _ _ Fa (λhm=>uJ ?_);have hm':g.β t∈f2:=hm;exact bt _ (bj _ hm');rw[aO (cO rU)]at TL;exact .inl ⟨by simpa using rU,TL,rfl⟩;intro k u av hk;cases k with
 |zero=>simp only[cr,aZ,Prod.mk.injEq]at hk;obtain⟨rfl,rfl⟩:=hk;refine .inr ⟨f2,⟨_,fi arr T fr jL,r2.mono hle (λb _=>⟨rfl,rfl⟩)⟩,n2.1,λb hb=>?_⟩;show(if b∈f2 then _ else _)=_;rw[aE hb]
 |succ k=>simp at hk
theorem gA.header {xs:aw e.D}(r:gA c v (.sl fl e xs) fp):∃o n k,v=.slice o n k/\n=xs.length:=by
 cases fl with
 |own t=>obtain⟨⟨u,hu,h⟩,_⟩:=r;simp at hu;subst hu;rcases h with⟨⟨_,rfl⟩,rfl,_⟩|⟨b,o0,cap,arr,T,fr,fps,rfl,_⟩;exact⟨_,_,_,rfl,rfl⟩;exact⟨_,_,_,rfl,rfl⟩
 |arg _=>obtain⟨_,u,hu,h⟩:=r;simp at hu;subst hu;rcases h with⟨⟨ad,rfl⟩,rfl⟩|⟨b,o,cap,rfl,_⟩;exact⟨_,_,_,rfl,rfl⟩;exact⟨_,_,_,rfl,rfl⟩
 |loc ep pv=>exact r.2.2.1
 |nest _ _ _ _ _ _=>exact r.2.2.1
 |part _ _ _ _=>exact r.2.2.1
 |fg _ _ _=>obtain⟨_,⟨k,_,b,o0,cap,arr,T,fr,fps,rfl,_⟩,_⟩:=r;exact⟨_,_,_,rfl,rfl⟩
theorem K2 {b o0 len cap t:Nat}{rt:ka}{e:CT}(hi:c.iss t)(hn:i=n)(hh:c.hdr t=.slice (some ⟨b,o0,none⟩) len cap)(hl:n<len):∀(cs:aw AC)(p:Nat){vs:iq},bB c vs cs []->
 (∀j u,vs[j]?=some u->c.S b (o0+n*e.size+(p+j))/\c.w.cell? ⟨b,o0+n*e.size+(p+j),none⟩=some u)->bB c vs (PK c.ep rt t e i p cs) []
 |[],_,vs,h,_=>by cases vs<;>exact h
 |x::cs,p,vs,h,hc=>by
  cases vs with
  |nil=>exact h.elim
  |cons v vs=>
   obtain⟨f1,f2,hf,h1,h2⟩:=h;have e1:f1=[]:=by have:=hf.symm;simp at this;exact this.1
   have e2:f2=[]:=by have:=hf.symm;simp at this;exact this.2
   subst e1;subst e2;have sT:=K2 (rt:=rt) (e:=e) hi hn hh hl cs (p+1) h2 (λj u hu=>by have:=hc (j+1) u (by simpa using hu);rwa[show p+(j+1)=p+1+j by omega]at this);have hv:=hc 0 v rfl;cases x with|sl fl e' xs=>refine⟨[],[],rfl,⟨rfl,aU _,?_,λ_=>⟨hi,n,b,o0,len,cap,hn,hh,hl,?_,?_⟩⟩,sT⟩;exact gA.header h1;have:=hv.1;rwa[dT]at this;have:=hv.2;rwa[dT]at this|int _ _=>exact⟨[],[],rfl,h1,sT⟩|bool _=>exact⟨[],[],rfl,h1,sT⟩|str _=>exact⟨[],[],rfl,h1,sT⟩|jm=>exact⟨[],[],rfl,h1,sT⟩|ptr _ _=>exact⟨[],[],rfl,h1,sT⟩|zM _ _ _ _ _=>exact⟨[],[],rfl,h1,sT⟩|fn _=>exact⟨[],[],rfl,h1,sT⟩|un=>exact⟨[],[],rfl,h1,sT⟩|bot=>exact⟨[],[],rfl,h1,sT⟩
theorem ahW {w:World}{xs:aw e.D}(h:ff hw w (.sl e) [v] xs fp0){x:e.D}(hx:xs[n]?=some x): ∃b o0 cap arr T fr fx,v=.slice (some ⟨b,o0,none⟩) xs.length cap/\w.heap[b]?=some (.cells arr T fr)/\ff hw w e ((arr.toList.drop (o0+n*e.size)).take e.size) x fx:=by obtain⟨u,hu,h⟩:=h;simp at hu;subst hu;have Im:n<xs.length:=(aF.1 hx).1;rcases h with⟨⟨_,rfl⟩,rfl,rfl⟩|⟨b,o0,cap,arr,T,fr,fps,rfl,hb,qZ,hs,hc,hh,rfl,hl,hr⟩;simp at hx;have RA:fps[n]?=some fps[n]:=al (by omega);exact⟨b,o0,cap,arr,T,fr,_,rfl,hb,hr n x _ hx RA⟩
theorem Wl {E:Env}(hE:ja P E.ty){o:Oper}(ho:o.op=.load T p)(hg:dM C g st a w []){K:AS->ax R}{x:e.D}(hT:iR E.ty T=some sh)(th:gA (cH C g st w) (a.eval p) (.zM fl e x i off) [])(hk:Bw o sh fl e i off st K=some r):ma P C o a w K r:=by
 unfold Bw at hk;split at hk;rename_i ep rt t;obtain⟨_,b,ob,hv,_,_,D0⟩:=th;obtain⟨_,n,o0,len,cap,sJ,hrt,Im,hob⟩:=D0 rt t rfl;split at hk;rename_i t' e' ys gI;split at hk;rename_i he;subst he;split at hk;rename_i hc;obtain⟨rfl,gw⟩:=hc;simp only at hk;cases Ct:idx ys i with
 |none=>rw[Ct]at hk;simp[aa]at hk
 |some y=>
  rw[Ct]at hk;simp only[aa]at hk;have hyn:ys[n]?=some y:=by rw[sJ]at Ct;exact Ct
  obtain⟨v0,f2,hh,gE,_,_,_⟩:=hg.P1 rt gI;obtain⟨b2,o2,T6,arr,T',fr,fx,KB,jL,Kx⟩:=ahW gE hyn;have h1:=hh t' rfl;have h2:g.hdr t'=.slice (some ⟨b,o0,none⟩) len cap:=hrt;rw[h2,KB]at h1;simp only[Value.slice.injEq,aZ,Addr.mk.injEq]at h1;obtain⟨⟨rfl,rfl,_⟩,_⟩:=h1;have hln:((arr.toList.drop (o2+n*e'.size)).take e'.size).length=e'.size:=ff.length Kx;have FL:iT w (cH C g st w).S e' ((arr.toList.drop (o2+n*e'.size)).take e'.size) y:=ff.rep (λb o ho=> .inr ho) Kx;have eL:bB (cH C g st w) ((arr.toList.drop (o2+n*e'.size)).take e'.size) (cellsOf e' (.loc st.ep none) y) []:=Dy (c:=cH C g st w) FL;have Ai:∀j u,((((arr.toList.drop (o2+n*e'.size)).take e'.size).drop off).take sh.ct.size)[j]?=some u->w.cell? ⟨b2,ob+off+j,none⟩=some u:=by intro j u hu;rw[dA]at hu;split at hu;rw[bI,dA]at hu;split at hu;rw[bI,cj]at hu;rw[nU jL,hob,fC];exact hu;cases hu;cases hu
  obtain⟨v,ee,fi⟩:=wx (hE T sh hT) b2 (ob+off) ((((arr.toList.drop (o2+n*e'.size)).take e'.size).drop off).take sh.ct.size) (by simp only[aY,aM]at hln⊢;omega) Ai;have D1:(execOp a.eval o).run P w=.ok (.value v) w:=by simp only[execOp,ho,hv,Instr.loadAt,Instr.sureAddr,Sem.run_bind,Sem.run_pure,Result.andThen_ok];show((loadVar T ⟨b2,ob+off,none⟩).run P w).andThen _=_;rw[ee];rfl
  obtain⟨f1,f2',f3,hf,_,r2,_⟩:=eL.mid off sh.ct.size;have AW:f2'=[]:=by cases f2' with|nil=>rfl|cons y ys=>simp at hf
  subst AW;refine⟨_,_,_,.inl D1,⟨g,hg.quiet o.dst ?_⟩,hk⟩;exact⟨_,fi,r2⟩
 cases hk;cases hk;cases hk;cases hk
theorem Cl {fps:aw fw}{f:fw}(h:fps[n]?=some f): fps.flatten=(fps.take n).flatten++f++(fps.drop (n+1)).flatten/\∀f',(fps.set n f').flatten=(fps.take n).flatten++f'++(fps.drop (n+1)).flatten:=by
 have hn:n<fps.length:=(aF.1 h).1;have hf:fps[n]=f:=by rw[al hn]at h;simpa using h
 constructor
 ·conv=>lhs;rw[<-cl n fps,bJ hn,hf]
  simp
 intro f';rw[List.set_eq_take_append_cons_drop,aE hn];simp
theorem ac4 {w:World}{xs:aw e.D}(h:ff hw w (.sl e) [v] xs fp0){x:e.D}(hx:xs[n]?=some x): ∃b o0 cap arr T fr f1 fx f3,v=.slice (some ⟨b,o0,none⟩) xs.length cap/\w.heap[b]?=some (.cells arr T fr)/\ff hw w e ((arr.toList.drop (o0+n*e.size)).take e.size) x fx/\ fp0=b::(f1++fx++f3)/\aaN hw w e v xs n (b::(f1++f3)):=by obtain⟨u,hu,h⟩:=h;simp at hu;subst hu;have Im:n<xs.length:=(aF.1 hx).1;rcases h with⟨⟨_,rfl⟩,rfl,rfl⟩|⟨b,o0,cap,arr,T,fr,fps,rfl,hb,qZ,hs,hc,hh,rfl,hl,hr⟩;simp at hx;have RA:fps[n]?=some fps[n]:=al (by omega);have E9:=Cl RA;refine⟨b,o0,cap,arr,T,fr,(fps.take n).flatten,fps[n],(fps.drop (n+1)).flatten,rfl,hb,hr n x _ hx RA,by rw[E9.1],?_⟩;refine⟨b,o0,cap,arr,T,fr,fps.set n [],rfl,hb,qZ,hs,hc,hh,by rw[E9.2];simp,by simp[hl],Im,by rw[br];simp[hl,Im],λi x' f hi zQ hf=>?_⟩;rw[aO (cO hi)]at hf;exact hr i x' f zQ hf
theorem Qo {E:Env}(hE:ja P E.ty){o:Oper}(ho:o.op=.load T p)(hg:dM C g st a w []){K:AS->ax R}{x:e.D}(hT:iR E.ty T=some sh)(th:gA (cH C g st w) (a.eval p) (.zM fl e x i off) [])(hk:wF o sh fl e i off st K=some r):ma P C o a w K r:=by
 unfold wF at hk;split at hk;rename_i ep rt t;obtain⟨_,b,ob,hv,_,_,D0⟩:=th;obtain⟨_,n,o0,len,cap,sJ,hrt,Im,hob⟩:=D0 rt t rfl;split at hk;rename_i t' e' ys gI;split at hk;rename_i he;subst he;split at hk;rename_i hc;obtain⟨rfl,rfl,Ik⟩:=hc;simp only at hk;cases Ct:idx ys i with
 |none=>rw[Ct]at hk;simp[aa]at hk
 |some y=>
  rw[Ct]at hk;simp only[aa]at hk;have hyn:ys[n]?=some y:=by rw[sJ]at Ct;exact Ct
  obtain⟨v0,f2,Nm,AJ,_,pC⟩:=hg.adk rt (by simp) gI;obtain⟨b2,o2,T6,arr,T',fr,f1,fx,f3,KB,jL,Kx,BM,aiY⟩:=ac4 Nm.1 hyn;have h1:=(Nm.2 t' rfl).2;have h2:g.hdr t'=.slice (some ⟨b,o0,none⟩) len cap:=hrt;have L5:v0=g.hdr t':=h1;rw[h2,KB]at L5;simp only[Value.slice.injEq,aZ,Addr.mk.injEq]at L5;obtain⟨⟨rfl,rfl,_⟩,_⟩:=L5;have jL:w.heap[b2]?=some (.cells arr T' fr):=jL;have hln:((arr.toList.drop (o2+n*e'.size)).take e'.size).length=e'.size:=ff.length Kx;have Ai:∀j u,((arr.toList.drop (o2+n*e'.size)).take e'.size)[j]?=some u->w.cell? ⟨b2,ob+0+j,none⟩=some u:=by intro j u hu;rw[dA]at hu;split at hu;rw[bI,cj]at hu;rw[nU jL,hob,dT];exact hu;cases hu
  obtain⟨v,ee,fi⟩:=wx (hE T sh hT) b2 (ob+0) ((arr.toList.drop (o2+n*e'.size)).take e'.size) (by rw[hln,Ik]) Ai;have D1:(execOp a.eval o).run P w=.ok (.value v) w:=by simp only[execOp,ho,hv,Instr.loadAt,Instr.sureAddr,Sem.run_bind,Sem.run_pure,Result.andThen_ok];show((loadVar T ⟨b2,ob+0,none⟩).run P w).andThen _=_;rw[ee];rfl
  rw[BM]at AJ;have uJ:=db.1 AJ;have hn3:=uJ.2;rw[aQ]at hn3;have m1:=aI.1 hn3;have m2:=aI.1 m1.2.1;obtain⟨g',nm⟩:=pC (.sl (.fg (some t') i (some st.ep)) e' ys) (b2::(f1++f3)) fx v (.val sh.agg (cellsOf e' (.own none) y)) (λc' hle Qx DP wN=>by refine⟨λq hq=>?_,⟨n,sJ,by rw[Qx,DP];exact aiY⟩,λt ht=>?_⟩;simp at hq;subst hq;refine⟨by rw[wN];exact aU _,λ_=>?_⟩;refine ff.rep (hw:=c'.hw) (fp:=f2) (λb o ho=> .inr ho) ?_;rw[Qx,DP];exact Nm.1;simp at ht;subst ht;have h0:=Nm.2 t' rfl;exact⟨(hle.hdr t' h0.1).1,by rw[(hle.hdr t' h0.1).2];exact h0.2⟩) (by refine db.2 ⟨λhm=>uJ.1 (by rcases ay.1 hm with k|k<;>simp[k]),aI.2 ⟨m1.1,m2.2.1,?_⟩⟩;rintro c hc d hd rfl;exact m1.2.2 c hc c (bj _ hd) rfl) m2.1 (λc hc=>by rw[BM];rcases bO.1 hc with rfl|hc;exact⟨by simp,λhm=>uJ.1 (by simp[hm])⟩;rcases ay.1 hc with hc|hc;exact⟨by simp[hc],λhm=>m1.2.2 c hc c (bt _ hm) rfl⟩;exact⟨by simp[hc],λhm=>m2.2.2 c hm c hc rfl⟩) (λc hc=>by rw[BM];simp[hc]) ⟨_,fi,yd (c:=cH C g st w) Kx⟩;exact⟨_,_,_,.inl D1,dM.Bp nm o.dst,hk⟩
 cases hk;cases hk;cases hk;cases hk
theorem Zl {E:Env}(hE:ja P E.ty){an:An}{o:Oper}(ho:o.op=.load T p)(h:np C st a w){K:AS->ax R}(hk:oh E an o T p st K=some r):ma P C o a w K r:=by
 unfold oh at hk;obtain⟨g,hg⟩:=id h;split at hk;rename_i sh s off hT hp;have th:=hg.rd p;rw[hp]at th;have th:=zy th;split at hk;rename_i cs ju;have ju:st.boxes[s]?=some (some cs):=by rw[dJ]at ju;cases hq:st.boxes[s]? with|none=>rw[hq]at ju;simp at ju|some q=>rw[hq]at ju;simp at ju;rw[ju]
 split at hk;rename_i gw;obtain⟨arr,T',fr,fp,jL,qZ,hr,hn,uJ,hl,Fa,Fe⟩:=hg.boxes s cs ju;have hlen:=hr.length;have ag7:=MT jL off sh.ct.size;obtain⟨v,ee,fi⟩:=wx (hE T sh hT) (g.β s) off ((arr.toList.drop off).take sh.ct.size) (by simp at hlen⊢;omega) ag7;have D1:(execOp a.eval o).run P w=.ok (.value v) w:=by simp only[execOp,ho,th,Instr.loadAt,Instr.sureAddr,Sem.run_bind,Sem.run_pure,Result.andThen_ok];show((loadVar T ⟨g.β s,off,none⟩).run P w).andThen _=_;rw[ee];rfl
 split at hk;rename_i d hd;split at hk;obtain⟨g',nm⟩:=hg.afv s ju off sh.ct.size gw (gg:=sh.agg) (v:=v) (λan8 T2 fr2 h2=>by rw[jL]at h2;simp at h2;obtain⟨rfl,_⟩:=h2;exact fi);refine⟨_,_,_,.inl D1,?_,hk⟩;rw[hd];exact dM.Bp nm (some d);refine⟨_,_,_,.inl D1,?_,hk⟩;rw[hd];refine⟨g,hg.quiet (some d) ⟨_,fi,?_⟩⟩;obtain⟨f1,f2,f3,_,_,r2,_⟩:=hr.mid off sh.ct.size;exact bB.borrow (c:=cH C g st w) (.box s) off r2;cases hk;cases hk;cases hk;rename_i sh fl e x i off hT hp;have th:=hg.rd p;rw[hp]at th;have th:=ew th;split at hk;exact Qo hE ho hg hT th hk;split at hk;rename_i nX;split at hk;rename_i gw
 have key:∃b o cs,a.eval p=.pointer (some ⟨b,o+off,none⟩)/\(∀j v,cs[j]?=some v->w.cell? ⟨b,o+j,none⟩=some v)/\bB (cH C g st w) cs (cellsOf e fl.bare x) []/\
  ∀ep rt t,fl=.loc ep (some (rt,t))->(cH C g st w).iss t/\(∃n o0 len cap:Nat,i=n/\(cH C g st w).hdr t=.slice (some ⟨b,o0,none⟩) len cap/\n<len/\o=o0+n*e.size)/\∀j v,cs[j]?=some v->(cH C g st w).S b (o+j):=by
  cases fl with
  |own t=>exact th.elim
  |nest _ _ _ _ _ _=>exact th.elim
  |part _ _ _ _=>exact th.elim
  |fg _ _ _=>exact th.elim
  |arg _=>
   obtain⟨_,b,o,hv,cs,hc,hr⟩:=th
   exact⟨b,o,cs,hv,λj v hj=>(hc j v hj).2,Dc hr,λ_ _ _ he=>by cases he⟩
  |loc ep pv=>
   obtain⟨_,b,o,hv,h2,h3,h4⟩:=th
   have wN:ep=st.ep:=by simpa[pE.live]using nX
   obtain⟨cs,hc,hr⟩:=h3 wN
   exact⟨b,o,cs,hv,λj v hj=>(hc j v hj).2,by simp only[pE.bare];rw[wN];exact Dy hr,λep' rt t he=>by cases he;obtain⟨k1,k2⟩:=h4 rt t rfl;exact⟨k1,k2,λj v hj=>(hc j v hj).1⟩⟩
 obtain⟨b,ob,cs,hv,hc,eL,Dr⟩:=key;have hlen:=eL.length;rw[kq]at hlen;obtain⟨v,ee,fi⟩:=wx (hE T sh hT) b (ob+off) ((cs.drop off).take sh.ct.size) (by simp;omega) (λj u hu=>by rw[dA]at hu;split at hu;rw[bI]at hu;have:=hc _ _ hu;rwa[<-fC]at this;cases hu);have D1:(execOp a.eval o).run P w=.ok (.value v) w:=by simp only[execOp,ho,hv,Instr.loadAt,Instr.sureAddr,Sem.run_bind,Sem.run_pure,Result.andThen_ok];show((loadVar T ⟨b,ob+off,none⟩).run P w).andThen _=_;rw[ee];rfl
 obtain⟨f1,f2,f3,hf,_,r2,_⟩:=eL.mid off sh.ct.size;have AW:f2=[]:=by cases f2 with|nil=>rfl|cons y ys=>simp at hf
 subst AW;refine⟨_,_,_,.inl D1,⟨g,hg.quiet o.dst ?_⟩,hk⟩;refine⟨_,fi,?_⟩;unfold acW;split;rename_i d _ _ _ _;cases an.nest.contains d with|false=>exact r2|true=>simp only[ah];obtain⟨k1,⟨n,o0,len,cap,hi,hh,Im,I9⟩,hS⟩:=Dr _ _ _ rfl;refine K2 (b:=b) (n:=n) (o0:=o0) (len:=len) (cap:=cap) k1 hi hh Im _ off r2 (λj u hu=>?_);rw[dA]at hu;split at hu;rw[bI]at hu;rw[<-I9];exact⟨hS _ _ hu,hc _ _ hu⟩;cases hu
 exact r2;cases hk;exact Wl hE ho hg hT th hk;cases hk
theorem Ei (h:off+vs.length<=cs.length):(dZ cs off vs).length=cs.length:=by simp[dZ];omega
theorem Ek {E:Env}(hE:ja P E.ty){o:Oper}{x:Operand}(hd:o.dst=none)(ho:o.op=.store T p x){K:AS->ax R}{s:Nat}{bH:AS}{g':Gh}(hT:iR E.ty T=some sh)(th:a.eval p=.pointer (some ⟨g'.β s,off,none⟩))(nm:dM C g' bH a w [(a.eval x,.val gg vs)])(ju:(nth bH.boxes s).getD none=some cs)(hlen:vs.length=sh.ct.size)(ach:vs.all AC.Gw=true)(gw:off+sh.ct.size<=cs.length)(hk:K (bH.eF s (some (dZ cs off vs)))=some r):ma P C o a w K r:=by
 have ju:bH.boxes[s]?=some (some cs):=by rw[dJ]at ju;cases hq:bH.boxes[s]? with|none=>rw[hq]at ju;simp at ju|some q=>rw[hq]at ju;simp at ju;rw[ju]
 obtain⟨arr,T',fr,fp,jL,qZ,hr,hn,uJ,hl,Fa,Fe⟩:=nm.boxes s cs ju;obtain⟨fh,⟨us,fi,TK⟩,L6,RE⟩:=nm.hands 0 _ _ rfl;have h1:=TK.my ach;have hul:=TK.length;have hal:=hr.length;have af2:off+us.length<=arr.size:=by simp at hal;omega
 have RJ:=Bz (P:=P) (w:=w) (hE T sh hT) (g'.β s) off fi (by omega) h1 jL qZ af2;have ee:(execOp a.eval o).run P w=.ok .skip (sN w (g'.β s) (eC arr off us) T' fr):=by simp only[execOp,ho,th,Instr.storeAt,Instr.sureAddr,Sem.run_bind,Sem.run_pure,Result.andThen_ok];show((storeVar T ⟨g'.β s,off,none⟩ (a.eval x)).run P w).andThen _=_;rw[RJ];rfl
 have DY:=lB jL;obtain⟨f1,f2,f3,rfl,r1,r2,r3⟩:=hr.mid off us.length;have BP:=hn;rw[aQ]at BP;have n1:=aI.1 BP;have n2:=aI.1 n1.2.1;have Mi:∀b∈fh,b≠g'.β s/\b∉f1++f2++f3:=by intro b hb;have Nk:=RE b hb;refine⟨λe=>?_,λhm=>?_⟩;rw[e,Fa]at Nk;cases Nk;rw[hl b hm]at Nk;cases Nk
 have agW:Fr (λb=>dE (g'.ej b)\/b=g'.β s) w (sN w (g'.β s) (eC arr off us) T' fr):=⟨rfl,rfl,rfl,by rw[kY];exact aU _,λb _ hb=>lW (λe=>hb (.inr e))⟩
 have anG:∀t,(if t=s then g'.β s else g'.β t)=g'.β t:=by intro t;split<;>simp_all
 have hle:(cH C g' bH w).Le ⟨g'.hw,λt=>if t=s then g'.β s else g'.β t,C.A,g'.hdr,md bH,bH.ep,iS bH,sN w (g'.β s) (eC arr off us) T' fr⟩:=by
  refine⟨rfl,λ_ ht=>⟨ht,rfl⟩,λk b o u hA hu=>?_,aU _,λt ht=>⟨ht,anG t⟩,λ_ b o u ho hu=>⟨ho,?_⟩⟩;have AY:b≠g'.β s:=by rintro rfl;exact nm.KR Fa k o hA
  rw[World.cell?_of_block (a:=⟨b,o,none⟩) (lW AY)];exact hu;have AY:b≠g'.β s:=by rintro rfl;have I9:o<g'.hw (g'.β s):=ho;rw[Fe]at I9;omega
  rw[World.cell?_of_block (a:=⟨b,o,none⟩) (lW AY)];exact hu
 have rj:∀b,b≠g'.β s->(sN w (g'.β s) (eC arr off us) T' fr).heap[b]?=w.heap[b]?:=λb hb=>lW hb;have eL:bB ⟨g'.hw,λt=>if t=s then g'.β s else g'.β t,C.A,g'.hdr,md bH,bH.ep,iS bH,sN w (g'.β s) (eC arr off us) T' fr⟩ (eC arr off us).toList (dZ cs off vs) (f1++fh++f3):=by
  rw[tZ us arr off af2];have e2:dZ cs off vs=cs.take off++vs++cs.drop (off+us.length):=by simp only[dZ];rw[hul]
  rw[e2];refine((r1.mono hle (λb hb=>⟨rj b (λe=>uJ (by rw[<-e];simp[hb])),rfl⟩)).append (TK.mono hle (λb hb=>⟨rj b (Mi b hb).1,rfl⟩))).append (r3.mono hle (λb hb=>⟨rj b (λe=>uJ (by rw[<-e];simp[hb])),rfl⟩))
 have ahb:(f1++fh++f3).Nodup:=by rw[aQ];refine aI.2 ⟨n1.1,aI.2 ⟨L6,n2.2.1,?_⟩,?_⟩;rintro b hb c hc rfl;exact(Mi b hb).2 (by simp[hc]);rintro b hb c hc rfl;rcases ay.1 hc with hc|hc;exact(Mi b hc).2 (by simp[hb]);exact n1.2.2 b hb b (bj _ hc) rfl
 obtain⟨g2,_,EH⟩:=nm.TZ s (bnew:=g'.β s) (hw':=g'.hw) (.inl ⟨rfl,Fa⟩) agW (vk DY) (λj hj=>qZ j (by rwa[ij]at hj)) (by rw[kY];exact DY) Fe
  (λ_ _ _ _ _=>rfl) (λb o u ho hu=>hle.ZX rfl b o u ho hu) eL ahb
  (by intro hm;simp only[ay]at hm
      rcases hm with(hm|hm)|hm
      ·exact uJ (by simp[hm])
      ·exact(Mi _ hm).1 rfl
      ·exact uJ (by simp[hm]))
  (by intro b hm;rw[kY];simp only[ay]at hm
      rcases hm with(hm|hm)|hm
      ·exact⟨(nm.fS b _ (hl b (by simp[hm]))).1,.inr (.inl (hl b (by simp[hm])))⟩
      ·exact⟨(nm.fS b _ (RE b hm)).1,.inl (by rw[RE b hm];rfl)⟩
      ·exact⟨(nm.fS b _ (hl b (by simp[hm]))).1,.inr (.inl (hl b (by simp[hm])))⟩)
 refine⟨undef,_,_,.inr ⟨rfl,ee⟩,?_,hk⟩;rw[hd];exact⟨g2,EH⟩
theorem MI {E:Env}(hE:ja P E.ty){o:Oper}{x:Operand}(hd:o.dst=none)(ho:o.op=.store T p x)(h:np C st a w){K:AS->ax R}{s:Nat}{bH:AS}(hT:iR E.ty T=some sh)(hp:st.rd p=.val false [.ptr s off])(rk:st.take x=(.val gg vs,bH))(ju:(nth bH.boxes s).getD none=some cs)(hlen:vs.length=sh.ct.size)(ach:vs.all AC.Gw=true)(gw:off+sh.ct.size<=cs.length)(hk:K (bH.eF s (some (dZ cs off vs)))=some r):ma P C o a w K r:=by obtain⟨g,hg⟩:=h;have th:=hg.rd p;rw[hp]at th;have th:=zy th;obtain⟨g',⟨Hg,_⟩,nm⟩:=hg.adY x;rw[rk]at nm;exact Ek hE hd ho hT (by rw[Hg];exact th) nm ju hlen ach gw hk
end Go.Dn
