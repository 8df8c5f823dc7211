import Derived.Test.YtfbhfnniblfpbaaGreatDnOps1
/- Part 2: loads and stores. -/
namespace Go.Dn
open Go.RowKit
variable {P:Program} {C:Ctx} {st:AS} {a:Act} {w:World} {R:Type} {r:R}
variable {gg:Bool} {e:CT} {fl:rj} {g:Gh} {off:Nat} {hw:Nat->Nat} {p:Operand} {c:RC} {sh:Shape} {T:TypeId} {cs vs:au AC} {fp fp0:eo}
theorem bE.mid {vs:ie}{xs:au AC}(h:bE c vs xs fp)(off n:Nat): ∃f1 f2 f3,fp=f1++f2++f3/\bE c (vs.take off) (xs.take off) f1/\bE c ((vs.drop off).take n) ((xs.drop off).take n) f2/\bE c (vs.drop (off+n)) (xs.drop (off+n)) f3:=by obtain⟨f1,g1,rfl,r1,r2⟩:=h.split off;obtain⟨f2,f3,rfl,r3,r4⟩:=r2.split n;rw[ec,ec]at r4;exact⟨f1,f2,f3,by simp,r1,r3,r4⟩
theorem Qc {w:World}{b:Nat}{arr:Array Value}{fr:Nat×Nat}(hb:w.heap[b]?=some (.cells arr T fr))(off n:Nat): ∀j v,((arr.toList.drop off).take n)[j]?=some v->w.cell? ⟨b,off+j,none⟩=some v:=by intro j v hv;rw[dz]at hv;split at hv;rw[bV,cm]at hv;rw[pz hb];exact hv;cases hv
theorem Cq {v:Value}{s:Nat}(h:fF c v (.val false [.ptr s off]) fp):v=.pointer (some ⟨c.β s,off,none⟩):=(ew h).1
theorem dN.age (h:dN C g st a w [])(s:Nat)(hb:st.boxes[s]?=some (some cs))(off n:Nat)(gy:off+n<=cs.length){v:Value}(eR:∀arr T fr,w.heap[g.β s]?=some (.cells arr T fr)->Cut gg v ((arr.toList.drop off).take n)): ∃g',dN C g' (st.eE s (some (dZ cs off (aS st.ep ((cs.drop off).take n))))) a w [(v,.val gg ((cs.drop off).take n))]:=by
 obtain⟨arr,T,fr,fp,kz,tw,hr,hn,xx,hl,Ia,Ic⟩:=h.boxes s cs hb;obtain⟨f1,f2,f3,rfl,r1,r2,r3⟩:=hr.mid off n;have Dc:=hn;rw[aZ]at Dc;have n1:=aJ.1 Dc;have n2:=aJ.1 n1.2.1;have As:s<st.boxes.length:=(aE.1 hb).1;let g':Gh:={g with ej:=λb=>if b∈f2 then some (.hand 0) else g.ej b}
 let bM:AS:=st.eE s (some (dZ cs off (aS st.ep ((cs.drop off).take n))));have hle:(cQ C g st w).Le (cQ C g' bM w):=QW rfl (λ_ _ _ _ _ hv=>hv) (λ_ _=>rfl) (λ_ _ _ ho hu=>⟨ho,hu⟩);have Wy:∀b y,g.ej b=some y->b∉f2->g'.ej b=some y:=by intro b y hb hm;show(if b∈f2 then _ else _)=_;rw[aH hm];exact hb
 have L4:∀b y,y≠ .box s->g.ej b=some y->b∉f2:=λb y hy hb hm=>hy (by have:=hl b (by simp[hm]);rw[hb]at this;simpa using this);refine⟨g',h.step (λy=>y≠ .box s) hle h.defers h.size (by show(st.eE s _).boxes.length=st.slots.length;rw[kv,aB];exact h.bsize) h.frame ?_ (λb y hy hb=>⟨Wy b y hb (L4 b y hy hb),rfl,rfl⟩) ?_ ?_ ?_ (.inl ⟨by simp,rfl⟩)⟩;intro b y hy;have QD:(if b∈f2 then some (jI.hand 0) else g.ej b)=some y:=hy;by_cases hm:b∈f2;exact h.fR b _ (hl b (by simp[hm]));rw[aH hm]at QD;exact h.fR b y QD;exact λi av hi=> .inl ⟨by simp,hi,rfl⟩;intro t rf ht;have WB:(st.boxes.set s (some (dZ cs off (aS st.ep ((cs.drop off).take n)))))[t]?=some (some rf):=by rw[<-kv];exact ht
 by_cases ur:t=s;subst ur;rw[br]at WB;simp only[cp,As]at WB;simp at WB;subst WB;have Kl:dZ cs off (aS st.ep ((cs.drop off).take n))=cs.take off++aS st.ep ((cs.drop off).take n)++cs.drop (off+n):=by simp only[dZ,aS,cA,bq,bh];rw[ja (by omega)]
 refine .inr ⟨arr,T,fr,f1++f3,kz,tw,?_,?_,?_,?_,?_,Ic⟩;have e:arr.toList=arr.toList.take off++(arr.toList.drop off).take n++arr.toList.drop (off+n):=by rw[<-ec,aZ,bW,bW]
 have hm1:=r1.mono hle (λb _=>⟨rfl,rfl⟩);have hm2:=(r2.aS).mono hle (by simp);have hm3:=r3.mono hle (λb _=>⟨rfl,rfl⟩);have hm4:=(hm1.append hm2).append hm3;rw[<-e,bA]at hm4;have e3:cs.take off++aS (cQ C g st w).ep ((cs.drop off).take n)++cs.drop (off+n)=dZ cs off (aS st.ep ((cs.drop off).take n)):=Kl.symm;rw[e3]at hm4;exact hm4;refine aJ.2 ⟨n1.1,n2.2.1,?_⟩;rintro b hb c hc rfl;exact n1.2.2 b hb b (bk _ hc) rfl;intro hm;have hm':g.β t∈f1++f3:=hm;refine xx ?_;rcases aA.1 hm' with k|k;exact bt _ (bt _ k);exact bk _ k;intro b hb;refine Wy b _ (hl b (by simp at hb⊢;rcases hb with hb|hb<;>simp[hb])) ?_;intro hm;rcases aA.1 hb with hb|hb;exact n1.2.2 b hb b (bt _ hm) rfl;exact n2.2.2 b hm b hb rfl;refine Wy _ _ Ia (λhm=>xx ?_);have hm':g.β t∈f2:=hm;exact bt _ (bk _ hm');rw[aR (cY ur)]at WB;exact .inl ⟨by simpa using ur,WB,rfl⟩;intro k u av hk;cases k with
 |zero=>simp only[cz,ba,Prod.mk.injEq]at hk;obtain⟨rfl,rfl⟩:=hk;refine .inr ⟨f2,⟨_,eR arr T fr kz,r2.mono hle (λb _=>⟨rfl,rfl⟩)⟩,n2.1,λb hb=>?_⟩;show(if b∈f2 then _ else _)=_;rw[aF hb]
 |succ k=>simp at hk
theorem gE.header {v:Value}{xs:au e.D}(r:gE c v (.sl fl e xs) fp):∃o n k,v=.slice o n k/\n=xs.length:=by
 cases fl with
 |own t=>obtain⟨⟨u,hu,h⟩,_⟩:=r;simp at hu;subst hu;rcases h with⟨⟨_,rfl⟩,rfl,_⟩|⟨b,o0,cap,arr,T,fr,fps,rfl,_⟩;exact⟨_,_,_,rfl,rfl⟩;exact⟨_,_,_,rfl,rfl⟩
 |arg _=>obtain⟨_,u,hu,h⟩:=r;simp at hu;subst hu;rcases h with⟨⟨ad,rfl⟩,rfl⟩|⟨b,o,cap,rfl,_⟩;exact⟨_,_,_,rfl,rfl⟩;exact⟨_,_,_,rfl,rfl⟩
 |loc ep pv=>exact r.2.2.1
 |nest _ _ _ _ _ _=>exact r.2.2.1
 |part _ _ _ _=>exact r.2.2.1
 |eY _ _ _=>obtain⟨_,⟨k,_,b,o0,cap,arr,T,fr,fps,rfl,_⟩,_⟩:=r;exact⟨_,_,_,rfl,rfl⟩
theorem Oa {b n o0 len cap t:Nat}{rt:kL}{e:CT}{i:Int}(hi:c.iss t)(hn:i=n)(hh:c.hdr t=.slice (some ⟨b,o0,none⟩) len cap)(hl:n<len):∀(cs:au AC)(p:Nat){vs:ie},bE c vs cs []->
 (∀j u,vs[j]?=some u->c.S b (o0+n*e.size+(p+j))/\c.w.cell? ⟨b,o0+n*e.size+(p+j),none⟩=some u)->bE c vs (SS c.ep rt t e i p cs) []
 |[],_,vs,h,_=>by cases vs<;>exact h
 |x::cs,p,vs,h,hc=>by
  cases vs with
  |nil=>exact h.elim
  |cons v vs=>
   obtain⟨f1,f2,hf,h1,h2⟩:=h;have e1:f1=[]:=by have:=hf.symm;simp at this;exact this.1
   have e2:f2=[]:=by have:=hf.symm;simp at this;exact this.2
   subst e1;subst e2;have mU:=Oa (rt:=rt) (e:=e) hi hn hh hl cs (p+1) h2 (λj u hu=>by have:=hc (j+1) u (by simpa using hu);rwa[show p+(j+1)=p+1+j by omega]at this);have hv:=hc 0 v rfl;cases x with|sl fl e' xs=>refine⟨[],[],rfl,⟨rfl,aU _,?_,λ_=>⟨hi,n,b,o0,len,cap,hn,hh,hl,?_,?_⟩⟩,mU⟩;exact gE.header h1;have:=hv.1;rwa[eh]at this;have:=hv.2;rwa[eh]at this|int _ _=>exact⟨[],[],rfl,h1,mU⟩|bool _=>exact⟨[],[],rfl,h1,mU⟩|str _=>exact⟨[],[],rfl,h1,mU⟩|jE=>exact⟨[],[],rfl,h1,mU⟩|ptr _ _=>exact⟨[],[],rfl,h1,mU⟩|Cd _ _ _ _ _=>exact⟨[],[],rfl,h1,mU⟩|fn _=>exact⟨[],[],rfl,h1,mU⟩|un=>exact⟨[],[],rfl,h1,mU⟩|bot=>exact⟨[],[],rfl,h1,mU⟩
theorem ahF {w:World}{v:Value}{xs:au e.D}(h:eP hw w (.sl e) [v] xs fp0){n:Nat}{x:e.D}(hx:xs[n]?=some x): ∃b o0 cap arr T fr fx,v=.slice (some ⟨b,o0,none⟩) xs.length cap/\w.heap[b]?=some (.cells arr T fr)/\eP hw w e ((arr.toList.drop (o0+n*e.size)).take e.size) x fx:=by obtain⟨u,hu,h⟩:=h;simp at hu;subst hu;have Lk:n<xs.length:=(aE.1 hx).1;rcases h with⟨⟨_,rfl⟩,rfl,rfl⟩|⟨b,o0,cap,arr,T,fr,fps,rfl,hb,tw,hs,hc,hh,rfl,hl,hr⟩;simp at hx;have Uw:fps[n]?=some fps[n]:=al (by omega);exact⟨b,o0,cap,arr,T,fr,_,rfl,hb,hr n x _ hx Uw⟩
theorem YJ {E:Env}(hE:jA P E.ty){o:Oper}(ho:o.op=.load T p)(hg:dN C g st a w []){K:AS->ax R}{x:e.D}{i:Int}(hT:iY E.ty T=some sh)(vG:gE (cQ C g st w) (a.eval p) (.Cd fl e x i off) [])(hk:Ep o sh fl e i off st K=some r):mW P C o a w K r:=by
 unfold Ep at hk;split at hk;rename_i ep rt t;obtain⟨_,b,ob,hv,_,_,G7⟩:=vG;obtain⟨_,n,o0,len,cap,vS,hrt,Lk,hob⟩:=G7 rt t rfl;split at hk;rename_i t' e' ys gL;split at hk;rename_i he;subst he;split at hk;rename_i hc;obtain⟨rfl,gy⟩:=hc;simp only at hk;cases Fq:idx ys i with
 |none=>rw[Fq]at hk;simp[aa]at hk
 |some y=>
  rw[Fq]at hk;simp only[aa]at hk;have hyn:ys[n]?=some y:=by rw[vS]at Fq;exact Fq
  obtain⟨v0,f2,hh,fU,_,_,_⟩:=hg.S5 rt gL;obtain⟨b2,o2,W2,arr,T',fr,fx,Ll,kz,NF⟩:=ahF fU hyn;have h1:=hh t' rfl;have h2:g.hdr t'=.slice (some ⟨b,o0,none⟩) len cap:=hrt;rw[h2,Ll]at h1;simp only[Value.slice.injEq,ba,Addr.mk.injEq]at h1;obtain⟨⟨rfl,rfl,_⟩,_⟩:=h1;have hln:((arr.toList.drop (o2+n*e'.size)).take e'.size).length=e'.size:=eP.length NF;have IL:jn w (cQ C g st w).S e' ((arr.toList.drop (o2+n*e'.size)).take e'.size) y:=eP.rep (λb o ho=> .inr ho) NF;have ed:bE (cQ C g st w) ((arr.toList.drop (o2+n*e'.size)).take e'.size) (cellsOf e' (.loc st.ep none) y) []:=Gw (c:=cQ C g st w) IL;have C8:∀j u,((((arr.toList.drop (o2+n*e'.size)).take e'.size).drop off).take sh.ct.size)[j]?=some u->w.cell? ⟨b2,ob+off+j,none⟩=some u:=by intro j u hu;rw[dz]at hu;split at hu;rw[bV,dz]at hu;split at hu;rw[bV,cm]at hu;rw[pz kz,hob,fu];exact hu;cases hu;cases hu
  obtain⟨v,dX,eR⟩:=zu (hE T sh hT) b2 (ob+off) ((((arr.toList.drop (o2+n*e'.size)).take e'.size).drop off).take sh.ct.size) (by simp only[bq,bh]at hln⊢;omega) C8;have G9:(execOp a.eval o).run P w=.ok (.value v) w:=by simp only[execOp,ho,hv,Instr.loadAt,Instr.sureAddr,Sem.run_bind,Sem.run_pure,Result.andThen_ok];show((loadVar T ⟨b2,ob+off,none⟩).run P w).andThen _=_;rw[dX];rfl
  obtain⟨f1,f2',f3,hf,_,r2,_⟩:=ed.mid off sh.ct.size;have EH:f2'=[]:=by cases f2' with|nil=>rfl|cons y ys=>simp at hf
  subst EH;refine⟨_,_,_,.inl G9,⟨g,hg.quiet o.dst ?_⟩,hk⟩;exact⟨_,eR,r2⟩
 cases hk;cases hk;cases hk;cases hk
theorem Fh {fps:au eo}{n:Nat}{f:eo}(h:fps[n]?=some f): fps.flatten=(fps.take n).flatten++f++(fps.drop (n+1)).flatten/\∀f',(fps.set n f').flatten=(fps.take n).flatten++f'++(fps.drop (n+1)).flatten:=by
 have hn:n<fps.length:=(aE.1 h).1;have hf:fps[n]=f:=by rw[al hn]at h;simpa using h
 constructor
 ·conv=>lhs;rw[<-bW n fps,bN hn,hf]
  simp
 intro f';rw[List.set_eq_take_append_cons_drop,aF hn];simp
theorem aed {w:World}{v:Value}{xs:au e.D}(h:eP hw w (.sl e) [v] xs fp0){n:Nat}{x:e.D}(hx:xs[n]?=some x): ∃b o0 cap arr T fr f1 fx f3,v=.slice (some ⟨b,o0,none⟩) xs.length cap/\w.heap[b]?=some (.cells arr T fr)/\eP hw w e ((arr.toList.drop (o0+n*e.size)).take e.size) x fx/\ fp0=b::(f1++fx++f3)/\acE hw w e v xs n (b::(f1++f3)):=by obtain⟨u,hu,h⟩:=h;simp at hu;subst hu;have Lk:n<xs.length:=(aE.1 hx).1;rcases h with⟨⟨_,rfl⟩,rfl,rfl⟩|⟨b,o0,cap,arr,T,fr,fps,rfl,hb,tw,hs,hc,hh,rfl,hl,hr⟩;simp at hx;have Uw:fps[n]?=some fps[n]:=al (by omega);have H9:=Fh Uw;refine⟨b,o0,cap,arr,T,fr,(fps.take n).flatten,fps[n],(fps.drop (n+1)).flatten,rfl,hb,hr n x _ hx Uw,by rw[H9.1],?_⟩;refine⟨b,o0,cap,arr,T,fr,fps.set n [],rfl,hb,tw,hs,hc,hh,by rw[H9.2];simp,by simp[hl],Lk,by rw[br];simp[hl,Lk],λi x' f hi B7 hf=>?_⟩;rw[aR (cY hi)]at hf;exact hr i x' f B7 hf
theorem Tq {E:Env}(hE:jA P E.ty){o:Oper}(ho:o.op=.load T p)(hg:dN C g st a w []){K:AS->ax R}{x:e.D}{i:Int}(hT:iY E.ty T=some sh)(vG:gE (cQ C g st w) (a.eval p) (.Cd fl e x i off) [])(hk:zF o sh fl e i off st K=some r):mW P C o a w K r:=by
 unfold zF at hk;split at hk;rename_i ep rt t;obtain⟨_,b,ob,hv,_,_,G7⟩:=vG;obtain⟨_,n,o0,len,cap,vS,hrt,Lk,hob⟩:=G7 rt t rfl;split at hk;rename_i t' e' ys gL;split at hk;rename_i he;subst he;split at hk;rename_i hc;obtain⟨rfl,rfl,Li⟩:=hc;simp only at hk;cases Fq:idx ys i with
 |none=>rw[Fq]at hk;simp[aa]at hk
 |some y=>
  rw[Fq]at hk;simp only[aa]at hk;have hyn:ys[n]?=some y:=by rw[vS]at Fq;exact Fq
  obtain⟨v0,f2,QB,E1,_,ri⟩:=hg.aet rt (by simp) gL;obtain⟨b2,o2,W2,arr,T',fr,f1,fx,f3,Ll,kz,NF,EI,ain⟩:=aed QB.1 hyn;have h1:=(QB.2 t' rfl).2;have h2:g.hdr t'=.slice (some ⟨b,o0,none⟩) len cap:=hrt;have Sg:v0=g.hdr t':=h1;rw[h2,Ll]at Sg;simp only[Value.slice.injEq,ba,Addr.mk.injEq]at Sg;obtain⟨⟨rfl,rfl,_⟩,_⟩:=Sg;have kz:w.heap[b2]?=some (.cells arr T' fr):=kz;have hln:((arr.toList.drop (o2+n*e'.size)).take e'.size).length=e'.size:=eP.length NF;have C8:∀j u,((arr.toList.drop (o2+n*e'.size)).take e'.size)[j]?=some u->w.cell? ⟨b2,ob+0+j,none⟩=some u:=by intro j u hu;rw[dz]at hu;split at hu;rw[bV,cm]at hu;rw[pz kz,hob,eh];exact hu;cases hu
  obtain⟨v,dX,eR⟩:=zu (hE T sh hT) b2 (ob+0) ((arr.toList.drop (o2+n*e'.size)).take e'.size) (by rw[hln,Li]) C8;have G9:(execOp a.eval o).run P w=.ok (.value v) w:=by simp only[execOp,ho,hv,Instr.loadAt,Instr.sureAddr,Sem.run_bind,Sem.run_pure,Result.andThen_ok];show((loadVar T ⟨b2,ob+0,none⟩).run P w).andThen _=_;rw[dX];rfl
  rw[EI]at E1;have xx:=dj.1 E1;have hn3:=xx.2;rw[aZ]at hn3;have m1:=aJ.1 hn3;have m2:=aJ.1 m1.2.1;obtain⟨g',oy⟩:=ri (.sl (.eY (some t') i (some st.ep)) e' ys) (b2::(f1++f3)) fx v (.val sh.agg (cellsOf e' (.own none) y)) (λc' hle Qz EV zM=>by refine⟨λq hq=>?_,⟨n,vS,by rw[Qz,EV];exact ain⟩,λt ht=>?_⟩;simp at hq;subst hq;refine⟨by rw[zM];exact aU _,λ_=>?_⟩;refine eP.rep (hw:=c'.hw) (fp:=f2) (λb o ho=> .inr ho) ?_;rw[Qz,EV];exact QB.1;simp at ht;subst ht;have h0:=QB.2 t' rfl;exact⟨(hle.hdr t' h0.1).1,by rw[(hle.hdr t' h0.1).2];exact h0.2⟩) (by refine dj.2 ⟨λhm=>xx.1 (by rcases aA.1 hm with k|k<;>simp[k]),aJ.2 ⟨m1.1,m2.2.1,?_⟩⟩;rintro c hc d hd rfl;exact m1.2.2 c hc c (bk _ hd) rfl) m2.1 (λc hc=>by rw[EI];rcases cg.1 hc with rfl|hc;exact⟨by simp,λhm=>xx.1 (by simp[hm])⟩;rcases aA.1 hc with hc|hc;exact⟨by simp[hc],λhm=>m1.2.2 c hc c (bt _ hm) rfl⟩;exact⟨by simp[hc],λhm=>m2.2.2 c hm c hc rfl⟩) (λc hc=>by rw[EI];simp[hc]) ⟨_,eR,vw (c:=cQ C g st w) NF⟩;exact⟨_,_,_,.inl G9,dN.Ea oy o.dst,hk⟩
 cases hk;cases hk;cases hk;cases hk
theorem abe {E:Env}(hE:jA P E.ty){an:An}{o:Oper}(ho:o.op=.load T p)(h:oz C st a w){K:AS->ax R}(hk:pL E an o T p st K=some r):mW P C o a w K r:=by
 unfold pL at hk;obtain⟨g,hg⟩:=id h;split at hk;rename_i sh s off hT hp;have vG:=hg.rd p;rw[hp]at vG;have vG:=Cq vG;split at hk;rename_i cs jX;have jX:st.boxes[s]?=some (some cs):=by rw[dJ]at jX;cases hq:st.boxes[s]? with|none=>rw[hq]at jX;simp at jX|some q=>rw[hq]at jX;simp at jX;rw[jX]
 split at hk;rename_i gy;obtain⟨arr,T',fr,fp,kz,tw,hr,hn,xx,hl,Ia,Ic⟩:=hg.boxes s cs jX;have hlen:=hr.length;have ahh:=Qc kz off sh.ct.size;obtain⟨v,dX,eR⟩:=zu (hE T sh hT) (g.β s) off ((arr.toList.drop off).take sh.ct.size) (by simp at hlen⊢;omega) ahh;have G9:(execOp a.eval o).run P w=.ok (.value v) w:=by simp only[execOp,ho,vG,Instr.loadAt,Instr.sureAddr,Sem.run_bind,Sem.run_pure,Result.andThen_ok];show((loadVar T ⟨g.β s,off,none⟩).run P w).andThen _=_;rw[dX];rfl
 split at hk;rename_i d hd;split at hk;obtain⟨g',oy⟩:=hg.age s jX off sh.ct.size gy (gg:=sh.agg) (v:=v) (λaoU T2 fr2 h2=>by rw[kz]at h2;simp at h2;obtain⟨rfl,_⟩:=h2;exact eR);refine⟨_,_,_,.inl G9,?_,hk⟩;rw[hd];exact dN.Ea oy (some d);refine⟨_,_,_,.inl G9,?_,hk⟩;rw[hd];refine⟨g,hg.quiet (some d) ⟨_,eR,?_⟩⟩;obtain⟨f1,f2,f3,_,_,r2,_⟩:=hr.mid off sh.ct.size;exact bE.borrow (c:=cQ C g st w) (.box s) off r2;cases hk;cases hk;cases hk;rename_i sh fl e x i off hT hp;have vG:=hg.rd p;rw[hp]at vG;have vG:=ew vG;split at hk;exact Tq hE ho hg hT vG hk;split at hk;rename_i pB;split at hk;rename_i gy
 have key:∃b o cs,a.eval p=.pointer (some ⟨b,o+off,none⟩)/\(∀j v,cs[j]?=some v->w.cell? ⟨b,o+j,none⟩=some v)/\bE (cQ C g st w) cs (cellsOf e fl.bare x) []/\
  ∀ep rt t,fl=.loc ep (some (rt,t))->(cQ C g st w).iss t/\(∃n o0 len cap:Nat,i=n/\(cQ C g st w).hdr t=.slice (some ⟨b,o0,none⟩) len cap/\n<len/\o=o0+n*e.size)/\∀j v,cs[j]?=some v->(cQ C g st w).S b (o+j):=by
  cases fl with
  |own t=>exact vG.elim
  |nest _ _ _ _ _ _=>exact vG.elim
  |part _ _ _ _=>exact vG.elim
  |eY _ _ _=>exact vG.elim
  |arg _=>
   obtain⟨_,b,o,hv,cs,hc,hr⟩:=vG
   exact⟨b,o,cs,hv,λj v hj=>(hc j v hj).2,Ga hr,λ_ _ _ he=>by cases he⟩
  |loc ep pv=>
   obtain⟨_,b,o,hv,h2,h3,h4⟩:=vG
   have zM:ep=st.ep:=by simpa[rj.live]using pB
   obtain⟨cs,hc,hr⟩:=h3 zM
   exact⟨b,o,cs,hv,λj v hj=>(hc j v hj).2,by simp only[rj.bare];rw[zM];exact Gw hr,λep' rt t he=>by cases he;obtain⟨k1,k2⟩:=h4 rt t rfl;exact⟨k1,k2,λj v hj=>(hc j v hj).1⟩⟩
 obtain⟨b,ob,cs,hv,hc,ed,BD⟩:=key;have hlen:=ed.length;rw[kS]at hlen;obtain⟨v,dX,eR⟩:=zu (hE T sh hT) b (ob+off) ((cs.drop off).take sh.ct.size) (by simp;omega) (λj u hu=>by rw[dz]at hu;split at hu;rw[bV]at hu;have:=hc _ _ hu;rwa[<-fu]at this;cases hu);have G9:(execOp a.eval o).run P w=.ok (.value v) w:=by simp only[execOp,ho,hv,Instr.loadAt,Instr.sureAddr,Sem.run_bind,Sem.run_pure,Result.andThen_ok];show((loadVar T ⟨b,ob+off,none⟩).run P w).andThen _=_;rw[dX];rfl
 obtain⟨f1,f2,f3,hf,_,r2,_⟩:=ed.mid off sh.ct.size;have EH:f2=[]:=by cases f2 with|nil=>rfl|cons y ys=>simp at hf
 subst EH;refine⟨_,_,_,.inl G9,⟨g,hg.quiet o.dst ?_⟩,hk⟩;refine⟨_,eR,?_⟩;unfold ad3;split;rename_i d _ _ _ _;cases an.nest.contains d with|false=>exact r2|true=>simp only[af];obtain⟨k1,⟨n,o0,len,cap,hi,hh,Lk,L5⟩,hS⟩:=BD _ _ _ rfl;refine Oa (b:=b) (n:=n) (o0:=o0) (len:=len) (cap:=cap) k1 hi hh Lk _ off r2 (λj u hu=>?_);rw[dz]at hu;split at hu;rw[bV]at hu;rw[<-L5];exact⟨hS _ _ hu,hc _ _ hu⟩;cases hu
 exact r2;cases hk;exact YJ hE ho hg hT vG hk;cases hk
theorem Hp (h:off+vs.length<=cs.length):(dZ cs off vs).length=cs.length:=by simp[dZ];omega
theorem Hr {E:Env}(hE:jA P E.ty){o:Oper}{x:Operand}(hd:o.dst=none)(ho:o.op=.store T p x){K:AS->ax R}{s:Nat}{bM:AS}{g':Gh}(hT:iY E.ty T=some sh)(vG:a.eval p=.pointer (some ⟨g'.β s,off,none⟩))(oy:dN C g' bM a w [(a.eval x,.val gg vs)])(jX:(nth bM.boxes s).getD none=some cs)(hlen:vs.length=sh.ct.size)(adx:vs.all AC.Jz=true)(gy:off+sh.ct.size<=cs.length)(hk:K (bM.eE s (some (dZ cs off vs)))=some r):mW P C o a w K r:=by
 have jX:bM.boxes[s]?=some (some cs):=by rw[dJ]at jX;cases hq:bM.boxes[s]? with|none=>rw[hq]at jX;simp at jX|some q=>rw[hq]at jX;simp at jX;rw[jX]
 obtain⟨arr,T',fr,fp,kz,tw,hr,hn,xx,hl,Ia,Ic⟩:=oy.boxes s cs jX;obtain⟨fh,⟨us,eR,WA⟩,Ph,UA⟩:=oy.hands 0 _ _ rfl;have h1:=WA.ni adx;have hul:=WA.length;have hal:=hr.length;have agy:off+us.length<=arr.size:=by simp at hal;omega
 have UG:=Er (P:=P) (w:=w) (hE T sh hT) (g'.β s) off eR (by omega) h1 kz tw agy;have dX:(execOp a.eval o).run P w=.ok .skip (vi w (g'.β s) (eC arr off us) T' fr):=by simp only[execOp,ho,vG,Instr.storeAt,Instr.sureAddr,Sem.run_bind,Sem.run_pure,Result.andThen_ok];show((storeVar T ⟨g'.β s,off,none⟩ (a.eval x)).run P w).andThen _=_;rw[UG];rfl
 have G5:=mc kz;obtain⟨f1,f2,f3,rfl,r1,r2,r3⟩:=hr.mid off us.length;have Dc:=hn;rw[aZ]at Dc;have n1:=aJ.1 Dc;have n2:=aJ.1 n1.2.1;have Pt:∀b∈fh,b≠g'.β s/\b∉f1++f2++f3:=by intro b hb;have QA:=UA b hb;refine⟨λe=>?_,λhm=>?_⟩;rw[e,Ia]at QA;cases QA;rw[hl b hm]at QA;cases QA
 have ag9:Fr (λb=>dD (g'.ej b)\/b=g'.β s) w (vi w (g'.β s) (eC arr off us) T' fr):=⟨rfl,rfl,rfl,by rw[lM];exact aU _,λb _ hb=>mP (λe=>hb (.inr e))⟩
 have aoG:∀t,(if t=s then g'.β s else g'.β t)=g'.β t:=by intro t;split<;>simp_all
 have hle:(cQ C g' bM w).Le ⟨g'.hw,λt=>if t=s then g'.β s else g'.β t,C.A,g'.hdr,mX bM,bM.ep,jm bM,vi w (g'.β s) (eC arr off us) T' fr⟩:=by
  refine⟨rfl,λ_ ht=>⟨ht,rfl⟩,λk b o u hA hu=>?_,aU _,λt ht=>⟨ht,aoG t⟩,λ_ b o u ho hu=>⟨ho,?_⟩⟩;have DT:b≠g'.β s:=by rintro rfl;exact oy.NY Ia k o hA
  rw[World.cell?_of_block (a:=⟨b,o,none⟩) (mP DT)];exact hu;have DT:b≠g'.β s:=by rintro rfl;have L5:o<g'.hw (g'.β s):=ho;rw[Ic]at L5;omega
  rw[World.cell?_of_block (a:=⟨b,o,none⟩) (mP DT)];exact hu
 have tH:∀b,b≠g'.β s->(vi w (g'.β s) (eC arr off us) T' fr).heap[b]?=w.heap[b]?:=λb hb=>mP hb;have ed:bE ⟨g'.hw,λt=>if t=s then g'.β s else g'.β t,C.A,g'.hdr,mX bM,bM.ep,jm bM,vi w (g'.β s) (eC arr off us) T' fr⟩ (eC arr off us).toList (dZ cs off vs) (f1++fh++f3):=by
  rw[wG us arr off agy];have e2:dZ cs off vs=cs.take off++vs++cs.drop (off+us.length):=by simp only[dZ];rw[hul]
  rw[e2];refine((r1.mono hle (λb hb=>⟨tH b (λe=>xx (by rw[<-e];simp[hb])),rfl⟩)).append (WA.mono hle (λb hb=>⟨tH b (Pt b hb).1,rfl⟩))).append (r3.mono hle (λb hb=>⟨tH b (λe=>xx (by rw[<-e];simp[hb])),rfl⟩))
 have ahk:(f1++fh++f3).Nodup:=by rw[aZ];refine aJ.2 ⟨n1.1,aJ.2 ⟨Ph,n2.2.1,?_⟩,?_⟩;rintro b hb c hc rfl;exact(Pt b hb).2 (by simp[hc]);rintro b hb c hc rfl;rcases aA.1 hc with hc|hc;exact(Pt b hc).2 (by simp[hb]);exact n1.2.2 b hb b (bk _ hc) rfl
 obtain⟨g2,_,HM⟩:=oy.WW s (bnew:=g'.β s) (hw':=g'.hw) (.inl ⟨rfl,Ia⟩) ag9 (yb G5) (λj hj=>tw j (by rwa[iz]at hj)) (by rw[lM];exact G5) Ic
  (λ_ _ _ _ _=>rfl) (λb o u ho hu=>hle.abO rfl b o u ho hu) ed ahk
  (by intro hm;simp only[aA]at hm
      rcases hm with(hm|hm)|hm
      ·exact xx (by simp[hm])
      ·exact(Pt _ hm).1 rfl
      ·exact xx (by simp[hm]))
  (by intro b hm;rw[lM];simp only[aA]at hm
      rcases hm with(hm|hm)|hm
      ·exact⟨(oy.fR b _ (hl b (by simp[hm]))).1,.inr (.inl (hl b (by simp[hm])))⟩
      ·exact⟨(oy.fR b _ (UA b hm)).1,.inl (by rw[UA b hm];rfl)⟩
      ·exact⟨(oy.fR b _ (hl b (by simp[hm]))).1,.inr (.inl (hl b (by simp[hm])))⟩)
 refine⟨undef,_,_,.inr ⟨rfl,dX⟩,?_,hk⟩;rw[hd];exact⟨g2,HM⟩
theorem P0 {E:Env}(hE:jA P E.ty){o:Oper}{x:Operand}(hd:o.dst=none)(ho:o.op=.store T p x)(h:oz C st a w){K:AS->ax R}{s:Nat}{bM:AS}(hT:iY E.ty T=some sh)(hp:st.rd p=.val false [.ptr s off])(tI:st.take x=(.val gg vs,bM))(jX:(nth bM.boxes s).getD none=some cs)(hlen:vs.length=sh.ct.size)(adx:vs.all AC.Jz=true)(gy:off+sh.ct.size<=cs.length)(hk:K (bM.eE s (some (dZ cs off vs)))=some r):mW P C o a w K r:=by obtain⟨g,hg⟩:=h;have vG:=hg.rd p;rw[hp]at vG;have vG:=Cq vG;obtain⟨g',⟨Km,_⟩,oy⟩:=hg.aeT x;rw[tI]at oy;exact Hr hE hd ho hT (by rw[Km];exact vG) oy jX hlen adx gy hk
end Go.Dn
