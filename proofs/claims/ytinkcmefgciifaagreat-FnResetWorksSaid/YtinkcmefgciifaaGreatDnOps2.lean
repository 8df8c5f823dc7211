import Derived.Test.YtinkcmefgciifaaGreatDnOps1
/- Part 2: loads and stores. -/
namespace Go.Dn
open Go.RowKit
variable {P:Program} {C:Ctx} {st:AS} {a:Act} {w:World} {R:Type} {r:R}
variable {gg:Bool} {e:CT} {fl:sC} {g:Gh} {i:Int} {n off:Nat} {hw:Nat->Nat} {p:Operand} {c:RC} {sh:Shape} {T:TypeId} {v:Value} {cs vs:az AC} {fp fp0:gk}
theorem bT.mid {vs:jT}{xs:az AC}(h:bT c vs xs fp)(off n:Nat): ∃f1 f2 f3,fp=f1++f2++f3/\bT c (vs.take off) (xs.take off) f1/\bT c ((vs.drop off).take n) ((xs.drop off).take n) f2/\bT c (vs.drop (off+n)) (xs.drop (off+n)) f3:=by obtain⟨f1,g1,rfl,r1,r2⟩:=h.split off;obtain⟨f2,f3,rfl,r3,r4⟩:=r2.split n;rw[eZ,eZ]at r4;exact⟨f1,f2,f3,by simp,r1,r3,r4⟩
theorem RI {w:World}{b:Nat}{arr:Array Value}{fr:Nat×Nat}(hb:w.heap[b]?=some (.cells arr T fr))(off n:Nat): ∀j v,((arr.toList.drop off).take n)[j]?=some v->w.cell? ⟨b,off+j,none⟩=some v:=by intro j v hv;rw[eD]at hv;split at hv;rw[bP,cI]at hv;rw[qD hb];exact hv;cases hv
theorem CM {s:Nat}(h:iu c v (.val false [.ptr s off]) fp):v=.pointer (some ⟨c.β s,off,none⟩):=(fO h).1
theorem eX.akp (h:eX C g st a w [])(s:Nat)(hb:st.boxes[s]?=some (some cs))(off n:Nat)(iW:off+n<=cs.length)(gJ:∀arr T fr,w.heap[g.β s]?=some (.cells arr T fr)->Cut gg v ((arr.toList.drop off).take n)): ∃g',eX C g' (st.fU s (some (fD cs off (bg st.ep ((cs.drop off).take n))))) a w [(v,.val gg ((cs.drop off).take n))]:=by
 obtain⟨arr,T,fr,fp,lV,uj,hr,hn,xY,hl,IE,IH⟩:=h.boxes s cs hb;obtain⟨f1,f2,f3,rfl,r1,r2,r3⟩:=hr.mid off n;have Eb:=hn;rw[aE]at Eb;have n1:=aO.1 Eb;have n2:=aO.1 n1.2.1;have AL:s<st.boxes.length:=(aB.1 hb).1;let g':Gh:={g with fL:=λb=>if b∈f2 then some (.hand 0) else g.fL b}
 let cc:AS:=st.fU s (some (fD cs off (bg st.ep ((cs.drop off).take n))));have hle:(dp C g st w).Le (dp C g' cc w):=Sr rfl (λ_ _ _ _ _ hv=>hv) (λ_ _=>rfl) (λ_ _ _ ho hu=>⟨ho,hu⟩);have YE:∀b y,g.fL b=some y->b∉f2->g'.fL b=some y:=by intro b y hb hm;show(if b∈f2 then _ else _)=_;rw[aI hm];exact hb
 have M4:∀b y,y≠ .box s->g.fL b=some y->b∉f2:=λb y hy hb hm=>hy (by have:=hl b (by simp[hm]);rw[hb]at this;simpa using this);refine⟨g',h.step (λy=>y≠ .box s) hle h.defers h.size (by show(st.fU s _).boxes.length=st.slots.length;rw[lS,aD];exact h.bsize) h.frame ?_ (λb y hy hb=>⟨YE b y hb (M4 b y hy hb),rfl,rfl⟩) ?_ ?_ ?_ (.inl ⟨by simp,rfl⟩)⟩;intro b y hy;have Vs:(if b∈f2 then some (lI.hand 0) else g.fL b)=some y:=hy;by_cases hm:b∈f2;exact h.iw b _ (hl b (by simp[hm]));rw[aI hm]at Vs;exact h.iw b y Vs;exact λi av hi=> .inl ⟨by simp,hi,rfl⟩;intro t sF ht;have YI:(st.boxes.set s (some (fD cs off (bg st.ep ((cs.drop off).take n)))))[t]?=some (some sF):=by rw[<-lS];exact ht
 by_cases uW:t=s;subst uW;rw[bL]at YI;simp only[cr,AL]at YI;simp at YI;subst YI;have KQ:fD cs off (bg st.ep ((cs.drop off).take n))=cs.take off++bg st.ep ((cs.drop off).take n)++cs.drop (off+n):=by simp only[fD,bg,cz,aY,aP];rw[jv (by omega)]
 refine .inr ⟨arr,T,fr,f1++f3,lV,uj,?_,?_,?_,?_,?_,IH⟩;have e:arr.toList=arr.toList.take off++(arr.toList.drop off).take n++arr.toList.drop (off+n):=by rw[<-eZ,aE,cC,cC]
 have hm1:=r1.mono hle (λb _=>⟨rfl,rfl⟩);have hm2:=(r2.bg).mono hle (by simp);have hm3:=r3.mono hle (λb _=>⟨rfl,rfl⟩);have hm4:=(hm1.append hm2).append hm3;rw[<-e,bB]at hm4;have e3:cs.take off++bg (dp C g st w).ep ((cs.drop off).take n)++cs.drop (off+n)=fD cs off (bg st.ep ((cs.drop off).take n)):=KQ.symm;rw[e3]at hm4;exact hm4;refine aO.2 ⟨n1.1,n2.2.1,?_⟩;rintro b hb c hc rfl;exact n1.2.2 b hb b (bm _ hc) rfl;intro hm;have hm':g.β t∈f1++f3:=hm;refine xY ?_;rcases ay.1 hm' with k|k;exact aU _ (aU _ k);exact bm _ k;intro b hb;refine YE b _ (hl b (by simp at hb⊢;rcases hb with hb|hb<;>simp[hb])) ?_;intro hm;rcases ay.1 hb with hb|hb;exact n1.2.2 b hb b (aU _ hm) rfl;exact n2.2.2 b hm b hb rfl;refine YE _ _ IE (λhm=>xY ?_);have hm':g.β t∈f2:=hm;exact aU _ (bm _ hm');rw[aF (cd uW)]at YI;exact .inl ⟨by simpa using uW,YI,rfl⟩;intro k u av hk;cases k with
 |zero=>simp only[cR,bw,Prod.mk.injEq]at hk;obtain⟨rfl,rfl⟩:=hk;refine .inr ⟨f2,⟨_,gJ arr T fr lV,r2.mono hle (λb _=>⟨rfl,rfl⟩)⟩,n2.1,λb hb=>?_⟩;show(if b∈f2 then _ else _)=_;rw[aJ hb]
 |succ k=>simp at hk
theorem jh.header {xs:az e.D}(r:jh c v (.sl fl e xs) fp):∃o n k,v=.slice o n k/\n=xs.length:=by
 cases fl with
 |own t=>obtain⟨⟨u,hu,h⟩,_⟩:=r;simp at hu;subst hu;rcases h with⟨⟨_,rfl⟩,rfl,_⟩|⟨b,o0,cap,arr,T,fr,fps,rfl,_⟩;exact⟨_,_,_,rfl,rfl⟩;exact⟨_,_,_,rfl,rfl⟩
 |arg _=>obtain⟨_,u,hu,h⟩:=r;simp at hu;subst hu;rcases h with⟨⟨ad,rfl⟩,rfl⟩|⟨b,o,cap,rfl,_⟩;exact⟨_,_,_,rfl,rfl⟩;exact⟨_,_,_,rfl,rfl⟩
 |loc ep pv=>exact r.2.2.1
 |nest _ _ _ _ _ _=>exact r.2.2.1
 |part _ _ _ _=>exact r.2.2.1
 |gH _ _ _=>obtain⟨_,⟨k,_,b,o0,cap,arr,T,fr,fps,rfl,_⟩,_⟩:=r;exact⟨_,_,_,rfl,rfl⟩
theorem PA {b o0 len cap t:Nat}{rt:mq}{e:CT}(hi:c.iss t)(hn:i=n)(hh:c.hdr t=.slice (some ⟨b,o0,none⟩) len cap)(hl:n<len):∀(cs:az AC)(p:Nat){vs:jT},bT c vs cs []->
 (∀j u,vs[j]?=some u->c.S b (o0+n*e.size+(p+j))/\c.w.cell? ⟨b,o0+n*e.size+(p+j),none⟩=some u)->bT c vs (UG c.ep rt t e i p cs) []
 |[],_,vs,h,_=>by cases vs<;>exact h
 |x::cs,p,vs,h,hc=>by
  cases vs with
  |nil=>exact h.elim
  |cons v vs=>
   obtain⟨f1,f2,hf,h1,h2⟩:=h;have e1:f1=[]:=by have:=hf.symm;simp at this;exact this.1
   have e2:f2=[]:=by have:=hf.symm;simp at this;exact this.2
   subst e1;subst e2;have vR:=PA (rt:=rt) (e:=e) hi hn hh hl cs (p+1) h2 (λj u hu=>by have:=hc (j+1) u (by simpa using hu);rwa[show p+(j+1)=p+1+j by omega]at this);have hv:=hc 0 v rfl;cases x with|sl fl e' xs=>refine⟨[],[],rfl,⟨rfl,aX _,?_,λ_=>⟨hi,n,b,o0,len,cap,hn,hh,hl,?_,?_⟩⟩,vR⟩;exact jh.header h1;have:=hv.1;rwa[eE]at this;have:=hv.2;rwa[eE]at this|int _ _=>exact⟨[],[],rfl,h1,vR⟩|bool _=>exact⟨[],[],rfl,h1,vR⟩|str _=>exact⟨[],[],rfl,h1,vR⟩|lj=>exact⟨[],[],rfl,h1,vR⟩|ptr _ _=>exact⟨[],[],rfl,h1,vR⟩|C5 _ _ _ _ _=>exact⟨[],[],rfl,h1,vR⟩|fn _=>exact⟨[],[],rfl,h1,vR⟩|un=>exact⟨[],[],rfl,h1,vR⟩|bot=>exact⟨[],[],rfl,h1,vR⟩
theorem amJ {w:World}{xs:az e.D}(h:gG hw w (.sl e) [v] xs fp0){x:e.D}(hx:xs[n]?=some x): ∃b o0 cap arr T fr fx,v=.slice (some ⟨b,o0,none⟩) xs.length cap/\w.heap[b]?=some (.cells arr T fr)/\gG hw w e ((arr.toList.drop (o0+n*e.size)).take e.size) x fx:=by obtain⟨u,hu,h⟩:=h;simp at hu;subst hu;have L8:n<xs.length:=(aB.1 hx).1;rcases h with⟨⟨_,rfl⟩,rfl,rfl⟩|⟨b,o0,cap,arr,T,fr,fps,rfl,hb,uj,hs,hc,hh,rfl,hl,hr⟩;simp at hx;have Ws:fps[n]?=some fps[n]:=aq (by omega);exact⟨b,o0,cap,arr,T,fr,_,rfl,hb,hr n x _ hx Ws⟩
theorem abo {E:Env}(hE:kJ P E.ty){o:Oper}(ho:o.op=.load T p)(hg:eX C g st a w []){K:AS->aC R}{x:e.D}(hT:kv E.ty T=some sh)(wo:jh (dp C g st w) (a.eval p) (.C5 fl e x i off) [])(hk:EU o sh fl e i off st K=some r):ox P C o a w K r:=by
 unfold EU at hk;split at hk;rename_i ep rt t;obtain⟨_,b,ob,hv,_,_,Hx⟩:=wo;obtain⟨_,n,o0,len,cap,ux,hrt,L8,hob⟩:=Hx rt t rfl;split at hk;rename_i t' e' ys jq;split at hk;rename_i he;subst he;split at hk;rename_i hc;obtain⟨rfl,iW⟩:=hc;simp only at hk;cases FX:idx ys i with
 |none=>rw[FX]at hk;simp[aa]at hk
 |some y=>
  rw[FX]at hk;simp only[aa]at hk;have hyn:ys[n]?=some y:=by rw[ux]at FX;exact FX
  obtain⟨v0,f2,hh,jl,_,_,_⟩:=hg.UT rt jq;obtain⟨b2,o2,Zf,arr,T',fr,fx,O4,lV,O0⟩:=amJ jl hyn;have h1:=hh t' rfl;have h2:g.hdr t'=.slice (some ⟨b,o0,none⟩) len cap:=hrt;rw[h2,O4]at h1;simp only[Value.slice.injEq,bw,Addr.mk.injEq]at h1;obtain⟨⟨rfl,rfl,_⟩,_⟩:=h1;have hln:((arr.toList.drop (o2+n*e'.size)).take e'.size).length=e'.size:=gG.length O0;have Jf:kA w (dp C g st w).S e' ((arr.toList.drop (o2+n*e'.size)).take e'.size) y:=gG.rep (λb o ho=> .inr ho) O0;have ga:bT (dp C g st w) ((arr.toList.drop (o2+n*e'.size)).take e'.size) (cellsOf e' (.loc st.ep none) y) []:=G4 (c:=dp C g st w) Jf;have DD:∀j u,((((arr.toList.drop (o2+n*e'.size)).take e'.size).drop off).take sh.ct.size)[j]?=some u->w.cell? ⟨b2,ob+off+j,none⟩=some u:=by intro j u hu;rw[eD]at hu;split at hu;rw[bP,eD]at hu;split at hu;rw[bP,cI]at hu;rw[qD lV,hob,gw];exact hu;cases hu;cases hu
  obtain⟨v,fG,gJ⟩:=zH (hE T sh hT) b2 (ob+off) ((((arr.toList.drop (o2+n*e'.size)).take e'.size).drop off).take sh.ct.size) (by simp only[aY,aP]at hln⊢;omega) DD;have Hy:(execOp a.eval o).run P w=.ok (.value v) w:=by simp only[execOp,ho,hv,Instr.loadAt,Instr.sureAddr,Sem.run_bind,Sem.run_pure,Result.andThen_ok];show((loadVar T ⟨b2,ob+off,none⟩).run P w).andThen _=_;rw[fG];rfl
  obtain⟨f1,f2',f3,hf,_,r2,_⟩:=ga.mid off sh.ct.size;have DH:f2'=[]:=by cases f2' with|nil=>rfl|cons y ys=>simp at hf
  subst DH;refine⟨_,_,_,.inl Hy,⟨g,hg.quiet o.dst ?_⟩,hk⟩;exact⟨_,gJ,r2⟩
 cases hk;cases hk;cases hk;cases hk
theorem FO {fps:az gk}{f:gk}(h:fps[n]?=some f): fps.flatten=(fps.take n).flatten++f++(fps.drop (n+1)).flatten/\∀f',(fps.set n f').flatten=(fps.take n).flatten++f'++(fps.drop (n+1)).flatten:=by
 have hn:n<fps.length:=(aB.1 h).1;have hf:fps[n]=f:=by rw[aq hn]at h;simpa using h
 constructor
 ·conv=>lhs;rw[<-cC n fps,bV hn,hf]
  simp
 intro f';rw[List.set_eq_take_append_cons_drop,aJ hn];simp
theorem ahR {w:World}{xs:az e.D}(h:gG hw w (.sl e) [v] xs fp0){x:e.D}(hx:xs[n]?=some x): ∃b o0 cap arr T fr f1 fx f3,v=.slice (some ⟨b,o0,none⟩) xs.length cap/\w.heap[b]?=some (.cells arr T fr)/\gG hw w e ((arr.toList.drop (o0+n*e.size)).take e.size) x fx/\ fp0=b::(f1++fx++f3)/\afD hw w e v xs n (b::(f1++f3)):=by obtain⟨u,hu,h⟩:=h;simp at hu;subst hu;have L8:n<xs.length:=(aB.1 hx).1;rcases h with⟨⟨_,rfl⟩,rfl,rfl⟩|⟨b,o0,cap,arr,T,fr,fps,rfl,hb,uj,hs,hc,hh,rfl,hl,hr⟩;simp at hx;have Ws:fps[n]?=some fps[n]:=aq (by omega);have ID:=FO Ws;refine⟨b,o0,cap,arr,T,fr,(fps.take n).flatten,fps[n],(fps.drop (n+1)).flatten,rfl,hb,hr n x _ hx Ws,by rw[ID.1],?_⟩;refine⟨b,o0,cap,arr,T,fr,fps.set n [],rfl,hb,uj,hs,hc,hh,by rw[ID.2];simp,by simp[hl],L8,by rw[bL];simp[hl,L8],λi x' f hi BE hf=>?_⟩;rw[aF (cd hi)]at hf;exact hr i x' f BE hf
theorem Vi {E:Env}(hE:kJ P E.ty){o:Oper}(ho:o.op=.load T p)(hg:eX C g st a w []){K:AS->aC R}{x:e.D}(hT:kv E.ty T=some sh)(wo:jh (dp C g st w) (a.eval p) (.C5 fl e x i off) [])(hk:zS o sh fl e i off st K=some r):ox P C o a w K r:=by
 unfold zS at hk;split at hk;rename_i ep rt t;obtain⟨_,b,ob,hv,_,_,Hx⟩:=wo;obtain⟨_,n,o0,len,cap,ux,hrt,L8,hob⟩:=Hx rt t rfl;split at hk;rename_i t' e' ys jq;split at hk;rename_i he;subst he;split at hk;rename_i hc;obtain⟨rfl,rfl,L6⟩:=hc;simp only at hk;cases FX:idx ys i with
 |none=>rw[FX]at hk;simp[aa]at hk
 |some y=>
  rw[FX]at hk;simp only[aa]at hk;have hyn:ys[n]?=some y:=by rw[ux]at FX;exact FX
  obtain⟨v0,f2,R9,Fv,_,qb⟩:=hg.ah6 rt (by simp) jq;obtain⟨b2,o2,Zf,arr,T',fr,f1,fx,f3,O4,lV,O0,Fh,anL⟩:=ahR R9.1 hyn;have h1:=(R9.2 t' rfl).2;have h2:g.hdr t'=.slice (some ⟨b,o0,none⟩) len cap:=hrt;have QJ:v0=g.hdr t':=h1;rw[h2,O4]at QJ;simp only[Value.slice.injEq,bw,Addr.mk.injEq]at QJ;obtain⟨⟨rfl,rfl,_⟩,_⟩:=QJ;have lV:w.heap[b2]?=some (.cells arr T' fr):=lV;have hln:((arr.toList.drop (o2+n*e'.size)).take e'.size).length=e'.size:=gG.length O0;have DD:∀j u,((arr.toList.drop (o2+n*e'.size)).take e'.size)[j]?=some u->w.cell? ⟨b2,ob+0+j,none⟩=some u:=by intro j u hu;rw[eD]at hu;split at hu;rw[bP,cI]at hu;rw[qD lV,hob,eE];exact hu;cases hu
  obtain⟨v,fG,gJ⟩:=zH (hE T sh hT) b2 (ob+0) ((arr.toList.drop (o2+n*e'.size)).take e'.size) (by rw[hln,L6]) DD;have Hy:(execOp a.eval o).run P w=.ok (.value v) w:=by simp only[execOp,ho,hv,Instr.loadAt,Instr.sureAddr,Sem.run_bind,Sem.run_pure,Result.andThen_ok];show((loadVar T ⟨b2,ob+0,none⟩).run P w).andThen _=_;rw[fG];rfl
  rw[Fh]at Fv;have xY:=dK.1 Fv;have hn3:=xY.2;rw[aE]at hn3;have m1:=aO.1 hn3;have m2:=aO.1 m1.2.1;obtain⟨g',pQ⟩:=qb (.sl (.gH (some t') i (some st.ep)) e' ys) (b2::(f1++f3)) fx v (.val sh.agg (cellsOf e' (.own none) y)) (λc' hle Vr Hl Ae=>by refine⟨λq hq=>?_,⟨n,ux,by rw[Vr,Hl];exact anL⟩,λt ht=>?_⟩;simp at hq;subst hq;refine⟨by rw[Ae];exact aX _,λ_=>?_⟩;refine gG.rep (hw:=c'.hw) (fp:=f2) (λb o ho=> .inr ho) ?_;rw[Vr,Hl];exact R9.1;simp at ht;subst ht;have h0:=R9.2 t' rfl;exact⟨(hle.hdr t' h0.1).1,by rw[(hle.hdr t' h0.1).2];exact h0.2⟩) (by refine dK.2 ⟨λhm=>xY.1 (by rcases ay.1 hm with k|k<;>simp[k]),aO.2 ⟨m1.1,m2.2.1,?_⟩⟩;rintro c hc d hd rfl;exact m1.2.2 c hc c (bm _ hd) rfl) m2.1 (λc hc=>by rw[Fh];rcases cD.1 hc with rfl|hc;exact⟨by simp,λhm=>xY.1 (by simp[hm])⟩;rcases ay.1 hc with hc|hc;exact⟨by simp[hc],λhm=>m1.2.2 c hc c (aU _ hm) rfl⟩;exact⟨by simp[hc],λhm=>m2.2.2 c hm c hc rfl⟩) (λc hc=>by rw[Fh];simp[hc]) ⟨_,gJ,BJ (c:=dp C g st w) O0⟩;exact⟨_,_,_,.inl Hy,eX.EJ pQ o.dst,hk⟩
 cases hk;cases hk;cases hk;cases hk
theorem aed {E:Env}(hE:kJ P E.ty){an:An}{o:Oper}(ho:o.op=.load T p)(h:pT C st a w){K:AS->aC R}(hk:qO E an o T p st K=some r):ox P C o a w K r:=by
 unfold qO at hk;obtain⟨g,hg⟩:=id h;split at hk;rename_i sh s off hT hp;have wo:=hg.rd p;rw[hp]at wo;have wo:=CM wo;split at hk;rename_i cs lB;have lB:st.boxes[s]?=some (some cs):=by rw[eT]at lB;cases hq:st.boxes[s]? with|none=>rw[hq]at lB;simp at lB|some q=>rw[hq]at lB;simp at lB;rw[lB]
 split at hk;rename_i iW;obtain⟨arr,T',fr,fp,lV,uj,hr,hn,xY,hl,IE,IH⟩:=hg.boxes s cs lB;have hlen:=hr.length;have alR:=RI lV off sh.ct.size;obtain⟨v,fG,gJ⟩:=zH (hE T sh hT) (g.β s) off ((arr.toList.drop off).take sh.ct.size) (by simp at hlen⊢;omega) alR;have Hy:(execOp a.eval o).run P w=.ok (.value v) w:=by simp only[execOp,ho,wo,Instr.loadAt,Instr.sureAddr,Sem.run_bind,Sem.run_pure,Result.andThen_ok];show((loadVar T ⟨g.β s,off,none⟩).run P w).andThen _=_;rw[fG];rfl
 split at hk;rename_i d hd;split at hk;obtain⟨g',pQ⟩:=hg.akp s lB off sh.ct.size iW (gg:=sh.agg) (v:=v) (λatf T2 fr2 h2=>by rw[lV]at h2;simp at h2;obtain⟨rfl,_⟩:=h2;exact gJ);refine⟨_,_,_,.inl Hy,?_,hk⟩;rw[hd];exact eX.EJ pQ (some d);refine⟨_,_,_,.inl Hy,?_,hk⟩;rw[hd];refine⟨g,hg.quiet (some d) ⟨_,gJ,?_⟩⟩;obtain⟨f1,f2,f3,_,_,r2,_⟩:=hr.mid off sh.ct.size;exact bT.borrow (c:=dp C g st w) (.box s) off r2;cases hk;cases hk;cases hk;rename_i sh fl e x i off hT hp;have wo:=hg.rd p;rw[hp]at wo;have wo:=fO wo;split at hk;exact Vi hE ho hg hT wo hk;split at hk;rename_i qH;split at hk;rename_i iW
 have key:∃b o cs,a.eval p=.pointer (some ⟨b,o+off,none⟩)/\(∀j v,cs[j]?=some v->w.cell? ⟨b,o+j,none⟩=some v)/\bT (dp C g st w) cs (cellsOf e fl.bare x) []/\
  ∀ep rt t,fl=.loc ep (some (rt,t))->(dp C g st w).iss t/\(∃n o0 len cap:Nat,i=n/\(dp C g st w).hdr t=.slice (some ⟨b,o0,none⟩) len cap/\n<len/\o=o0+n*e.size)/\∀j v,cs[j]?=some v->(dp C g st w).S b (o+j):=by
  cases fl with
  |own t=>exact wo.elim
  |nest _ _ _ _ _ _=>exact wo.elim
  |part _ _ _ _=>exact wo.elim
  |gH _ _ _=>exact wo.elim
  |arg _=>
   obtain⟨_,b,o,hv,cs,hc,hr⟩:=wo
   exact⟨b,o,cs,hv,λj v hj=>(hc j v hj).2,GJ hr,λ_ _ _ he=>by cases he⟩
  |loc ep pv=>
   obtain⟨_,b,o,hv,h2,h3,h4⟩:=wo
   have Ae:ep=st.ep:=by simpa[sC.live]using qH
   obtain⟨cs,hc,hr⟩:=h3 Ae
   exact⟨b,o,cs,hv,λj v hj=>(hc j v hj).2,by simp only[sC.bare];rw[Ae];exact G4 hr,λep' rt t he=>by cases he;obtain⟨k1,k2⟩:=h4 rt t rfl;exact⟨k1,k2,λj v hj=>(hc j v hj).1⟩⟩
 obtain⟨b,ob,cs,hv,hc,ga,Er⟩:=key;have hlen:=ga.length;rw[mH]at hlen;obtain⟨v,fG,gJ⟩:=zH (hE T sh hT) b (ob+off) ((cs.drop off).take sh.ct.size) (by simp;omega) (λj u hu=>by rw[eD]at hu;split at hu;rw[bP]at hu;have:=hc _ _ hu;rwa[<-gw]at this;cases hu);have Hy:(execOp a.eval o).run P w=.ok (.value v) w:=by simp only[execOp,ho,hv,Instr.loadAt,Instr.sureAddr,Sem.run_bind,Sem.run_pure,Result.andThen_ok];show((loadVar T ⟨b,ob+off,none⟩).run P w).andThen _=_;rw[fG];rfl
 obtain⟨f1,f2,f3,hf,_,r2,_⟩:=ga.mid off sh.ct.size;have DH:f2=[]:=by cases f2 with|nil=>rfl|cons y ys=>simp at hf
 subst DH;refine⟨_,_,_,.inl Hy,⟨g,hg.quiet o.dst ?_⟩,hk⟩;refine⟨_,gJ,?_⟩;unfold ahG;split;rename_i d _ _ _ _;cases an.nest.contains d with|false=>exact r2|true=>simp only[ah];obtain⟨k1,⟨n,o0,len,cap,hi,hh,L8,M5⟩,hS⟩:=Er _ _ _ rfl;refine PA (b:=b) (n:=n) (o0:=o0) (len:=len) (cap:=cap) k1 hi hh L8 _ off r2 (λj u hu=>?_);rw[eD]at hu;split at hu;rw[bP]at hu;rw[<-M5];exact⟨hS _ _ hu,hc _ _ hu⟩;cases hu
 exact r2;cases hk;exact abo hE ho hg hT wo hk;cases hk
theorem HL (h:off+vs.length<=cs.length):(fD cs off vs).length=cs.length:=by simp[fD];omega
theorem HN {E:Env}(hE:kJ P E.ty){o:Oper}{x:Operand}(hd:o.dst=none)(ho:o.op=.store T p x){K:AS->aC R}{s:Nat}{cc:AS}{g':Gh}(hT:kv E.ty T=some sh)(wo:a.eval p=.pointer (some ⟨g'.β s,off,none⟩))(pQ:eX C g' cc a w [(a.eval x,.val gg vs)])(lB:(nth cc.boxes s).getD none=some cs)(hlen:vs.length=sh.ct.size)(ahd:vs.all AC.J4=true)(iW:off+sh.ct.size<=cs.length)(hk:K (cc.fU s (some (fD cs off vs)))=some r):ox P C o a w K r:=by
 have lB:cc.boxes[s]?=some (some cs):=by rw[eT]at lB;cases hq:cc.boxes[s]? with|none=>rw[hq]at lB;simp at lB|some q=>rw[hq]at lB;simp at lB;rw[lB]
 obtain⟨arr,T',fr,fp,lV,uj,hr,hn,xY,hl,IE,IH⟩:=pQ.boxes s cs lB;obtain⟨fh,⟨us,gJ,YH⟩,QK,Wv⟩:=pQ.hands 0 _ _ rfl;have h1:=YH.oI ahd;have hul:=YH.length;have hal:=hr.length;have akR:off+us.length<=arr.size:=by simp at hal;omega
 have WB:=EW (P:=P) (w:=w) (hE T sh hT) (g'.β s) off gJ (by omega) h1 lV uj akR;have fG:(execOp a.eval o).run P w=.ok .skip (vK w (g'.β s) (fQ arr off us) T' fr):=by simp only[execOp,ho,wo,Instr.storeAt,Instr.sureAddr,Sem.run_bind,Sem.run_pure,Result.andThen_ok];show((storeVar T ⟨g'.β s,off,none⟩ (a.eval x)).run P w).andThen _=_;rw[WB];rfl
 have Hv:=nN lV;obtain⟨f1,f2,f3,rfl,r1,r2,r3⟩:=hr.mid off us.length;have Eb:=hn;rw[aE]at Eb;have n1:=aO.1 Eb;have n2:=aO.1 n1.2.1;have QX:∀b∈fh,b≠g'.β s/\b∉f1++f2++f3:=by intro b hb;have R8:=Wv b hb;refine⟨λe=>?_,λhm=>?_⟩;rw[e,IE]at R8;cases R8;rw[hl b hm]at R8;cases R8
 have alK:Fr (λb=>eM (g'.fL b)\/b=g'.β s) w (vK w (g'.β s) (fQ arr off us) T' fr):=⟨rfl,rfl,rfl,by rw[nk];exact aX _,λb _ hb=>oq (λe=>hb (.inr e))⟩
 have asN:∀t,(if t=s then g'.β s else g'.β t)=g'.β t:=by intro t;split<;>simp_all
 have hle:(dp C g' cc w).Le ⟨g'.hw,λt=>if t=s then g'.β s else g'.β t,C.A,g'.hdr,oz cc,cc.ep,ky cc,vK w (g'.β s) (fQ arr off us) T' fr⟩:=by
  refine⟨rfl,λ_ ht=>⟨ht,rfl⟩,λk b o u hA hu=>?_,aX _,λt ht=>⟨ht,asN t⟩,λ_ b o u ho hu=>⟨ho,?_⟩⟩;have Ec:b≠g'.β s:=by rintro rfl;exact pQ.Pn IE k o hA
  rw[World.cell?_of_block (a:=⟨b,o,none⟩) (oq Ec)];exact hu;have Ec:b≠g'.β s:=by rintro rfl;have M5:o<g'.hw (g'.β s):=ho;rw[IH]at M5;omega
  rw[World.cell?_of_block (a:=⟨b,o,none⟩) (oq Ec)];exact hu
 have uy:∀b,b≠g'.β s->(vK w (g'.β s) (fQ arr off us) T' fr).heap[b]?=w.heap[b]?:=λb hb=>oq hb;have ga:bT ⟨g'.hw,λt=>if t=s then g'.β s else g'.β t,C.A,g'.hdr,oz cc,cc.ep,ky cc,vK w (g'.β s) (fQ arr off us) T' fr⟩ (fQ arr off us).toList (fD cs off vs) (f1++fh++f3):=by
  rw[xg us arr off akR];have e2:fD cs off vs=cs.take off++vs++cs.drop (off+us.length):=by simp only[fD];rw[hul]
  rw[e2];refine((r1.mono hle (λb hb=>⟨uy b (λe=>xY (by rw[<-e];simp[hb])),rfl⟩)).append (YH.mono hle (λb hb=>⟨uy b (QX b hb).1,rfl⟩))).append (r3.mono hle (λb hb=>⟨uy b (λe=>xY (by rw[<-e];simp[hb])),rfl⟩))
 have alV:(f1++fh++f3).Nodup:=by rw[aE];refine aO.2 ⟨n1.1,aO.2 ⟨QK,n2.2.1,?_⟩,?_⟩;rintro b hb c hc rfl;exact(QX b hb).2 (by simp[hc]);rintro b hb c hc rfl;rcases ay.1 hc with hc|hc;exact(QX b hc).2 (by simp[hb]);exact n1.2.2 b hb b (bm _ hc) rfl
 obtain⟨g2,_,H7⟩:=pQ.YZ s (bnew:=g'.β s) (hw':=g'.hw) (.inl ⟨rfl,IE⟩) alK (yx Hv) (λj hj=>uj j (by rwa[jN]at hj)) (by rw[nk];exact Hv) IH
  (λ_ _ _ _ _=>rfl) (λb o u ho hu=>hle.aeN rfl b o u ho hu) ga alV
  (by intro hm;simp only[ay]at hm
      rcases hm with(hm|hm)|hm
      ·exact xY (by simp[hm])
      ·exact(QX _ hm).1 rfl
      ·exact xY (by simp[hm]))
  (by intro b hm;rw[nk];simp only[ay]at hm
      rcases hm with(hm|hm)|hm
      ·exact⟨(pQ.iw b _ (hl b (by simp[hm]))).1,.inr (.inl (hl b (by simp[hm])))⟩
      ·exact⟨(pQ.iw b _ (Wv b hm)).1,.inl (by rw[Wv b hm];rfl)⟩
      ·exact⟨(pQ.iw b _ (hl b (by simp[hm]))).1,.inr (.inl (hl b (by simp[hm])))⟩)
 refine⟨undef,_,_,.inr ⟨rfl,fG⟩,?_,hk⟩;rw[hd];exact⟨g2,H7⟩
theorem Rq {E:Env}(hE:kJ P E.ty){o:Oper}{x:Operand}(hd:o.dst=none)(ho:o.op=.store T p x)(h:pT C st a w){K:AS->aC R}{s:Nat}{cc:AS}(hT:kv E.ty T=some sh)(hp:st.rd p=.val false [.ptr s off])(uz:st.take x=(.val gg vs,cc))(lB:(nth cc.boxes s).getD none=some cs)(hlen:vs.length=sh.ct.size)(ahd:vs.all AC.J4=true)(iW:off+sh.ct.size<=cs.length)(hk:K (cc.fU s (some (fD cs off vs)))=some r):ox P C o a w K r:=by obtain⟨g,hg⟩:=h;have wo:=hg.rd p;rw[hp]at wo;have wo:=CM wo;obtain⟨g',⟨KS,_⟩,pQ⟩:=hg.aiU x;rw[uz]at pQ;exact HN hE hd ho hT (by rw[KS];exact wo) pQ lB hlen ahd iW hk
end Go.Dn
