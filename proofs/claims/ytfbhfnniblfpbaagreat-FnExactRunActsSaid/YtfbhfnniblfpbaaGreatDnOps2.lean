import Derived.Test.YtfbhfnniblfpbaaGreatDnOps1
/- Part 2: loads and stores. -/
namespace Go.Dn
open Go.RowKit
variable {P:Program} {C:Ctx} {st:AS} {a:Act} {w:World} {R:Type} {r:R}
variable {gg:Bool} {e:CT} {fl:qL} {g:Gh} {off:Nat} {hw:Nat->Nat} {p:Operand} {c:RC} {sh:Shape} {T:TypeId} {cs vs:aq AC} {fp fp0:dX}
theorem bn.mid {vs:ie}{xs:aq AC}(h:bn c vs xs fp)(off n:Nat): ∃f1 f2 f3,fp=f1++f2++f3/\bn c (vs.take off) (xs.take off) f1/\bn c ((vs.drop off).take n) ((xs.drop off).take n) f2/\bn c (vs.drop (off+n)) (xs.drop (off+n)) f3:=by obtain⟨f1,g1,rfl,r1,r2⟩:=h.split off;obtain⟨f2,f3,rfl,r3,r4⟩:=r2.split n;rw[ec,ec]at r4;exact⟨f1,f2,f3,by simp,r1,r3,r4⟩
theorem Rh {w:World}{b:Nat}{arr:Array Value}{fr:Nat×Nat}(hb:w.heap[b]?=some (.cells arr T fr))(off n:Nat): ∀j v,((arr.toList.drop off).take n)[j]?=some v->w.cell? ⟨b,off+j,none⟩=some v:=by intro j v hv;rw[cW]at hv;split at hv;rw[bJ,cg]at hv;rw[mZ hb];exact hv;cases hv
theorem DH {v:Value}{s:Nat}(h:fL c v (.val false [.ptr s off]) fp):v=.pointer (some ⟨c.β s,off,none⟩):=(dU h).1
theorem dx.aho (h:dx C g st a w [])(s:Nat)(hb:st.boxes[s]?=some (some cs))(off n:Nat)(gI:off+n<=cs.length){v:Value}(eh:∀arr T fr,w.heap[g.β s]?=some (.cells arr T fr)->Cut gg v ((arr.toList.drop off).take n)): ∃g',dx C g' (st.eG s (some (db cs off (aS st.ep ((cs.drop off).take n))))) a w [(v,.val gg ((cs.drop off).take n))]:=by
 obtain⟨arr,T,fr,fp,jw,qV,hr,hn,ti,hl,Hb,IQ⟩:=h.boxes s cs hb;obtain⟨f1,f2,f3,rfl,r1,r2,r3⟩:=hr.mid off n;have Cb:=hn;rw[aN]at Cb;have n1:=aB.1 Cb;have n2:=aB.1 n1.2.1;have yd:s<st.boxes.length:=(aD.1 hb).1;let g':Gh:={g with dK:=λb=>if b∈f2 then some (.hand 0) else g.dK b}
 let st':AS:=st.eG s (some (db cs off (aS st.ep ((cs.drop off).take n))));have hle:(cy C g st w).Le (cy C g' st' w):=R0 rfl (λ_ _ _ _ _ hv=>hv) (λ_ _=>rfl) (λ_ _ _ ho hu=>⟨ho,hu⟩);have XA:∀b y,g.dK b=some y->b∉f2->g'.dK b=some y:=by intro b y hb hm;show(if b∈f2 then _ else _)=_;rw[aF hm];exact hb
 have Ni:∀b y,y≠ .box s->g.dK b=some y->b∉f2:=λb y hy hb hm=>hy (by have:=hl b (by simp[hm]);rw[hb]at this;simpa using this);refine⟨g',h.step (λy=>y≠ .box s) hle h.defers h.size (by show(st.eG s _).boxes.length=st.slots.length;rw[kx,aH];exact h.bsize) h.frame ?_ (λb y hy hb=>⟨XA b y hb (Ni b y hy hb),rfl,rfl⟩) ?_ ?_ ?_ (.inl ⟨by simp,rfl⟩)⟩;intro b y hy;have RJ:(if b∈f2 then some (je.hand 0) else g.dK b)=some y:=hy;by_cases hm:b∈f2;exact h.fB b _ (hl b (by simp[hm]));rw[aF hm]at RJ;exact h.fB b y RJ;exact λi av hi=> .inl ⟨by simp,hi,rfl⟩;intro t nd ht;have UK:(st.boxes.set s (some (db cs off (aS st.ep ((cs.drop off).take n)))))[t]?=some (some nd):=by rw[<-kx];exact ht
 by_cases qW:t=s;subst qW;rw[bl]at UK;simp only[bL,yd]at UK;simp at UK;subst UK;have Kf:db cs off (aS st.ep ((cs.drop off).take n))=cs.take off++aS st.ep ((cs.drop off).take n)++cs.drop (off+n):=by simp only[db,aS,cr,bm,bj];rw[iW (by omega)]
 refine .inr ⟨arr,T,fr,f1++f3,jw,qV,?_,?_,?_,?_,?_,IQ⟩;have e:arr.toList=arr.toList.take off++(arr.toList.drop off).take n++arr.toList.drop (off+n):=by rw[<-ec,aN,cp,cp]
 have hm1:=r1.mono hle (λb _=>⟨rfl,rfl⟩);have hm2:=(r2.aS).mono hle (by simp);have hm3:=r3.mono hle (λb _=>⟨rfl,rfl⟩);have hm4:=(hm1.append hm2).append hm3;rw[<-e,bp]at hm4;have e3:cs.take off++aS (cy C g st w).ep ((cs.drop off).take n)++cs.drop (off+n)=db cs off (aS st.ep ((cs.drop off).take n)):=Kf.symm;rw[e3]at hm4;exact hm4;refine aB.2 ⟨n1.1,n2.2.1,?_⟩;rintro b hb c hc rfl;exact n1.2.2 b hb b (ba _ hc) rfl;intro hm;have hm':g.β t∈f1++f3:=hm;refine ti ?_;rcases az.1 hm' with k|k;exact bk _ (bk _ k);exact ba _ k;intro b hb;refine XA b _ (hl b (by simp at hb⊢;rcases hb with hb|hb<;>simp[hb])) ?_;intro hm;rcases az.1 hb with hb|hb;exact n1.2.2 b hb b (bk _ hm) rfl;exact n2.2.2 b hm b hb rfl;refine XA _ _ Hb (λhm=>ti ?_);have hm':g.β t∈f2:=hm;exact bk _ (ba _ hm');rw[aO (cJ qW)]at UK;exact .inl ⟨by simpa using qW,UK,rfl⟩;intro k u av hk;cases k with
 |zero=>simp only[cq,aZ,Prod.mk.injEq]at hk;obtain⟨rfl,rfl⟩:=hk;refine .inr ⟨f2,⟨_,eh arr T fr jw,r2.mono hle (λb _=>⟨rfl,rfl⟩)⟩,n2.1,λb hb=>?_⟩;show(if b∈f2 then _ else _)=_;rw[aG hb]
 |succ k=>simp at hk
theorem gM.header {v:Value}{xs:aq e.D}(r:gM c v (.sl fl e xs) fp):∃o n k,v=.slice o n k/\n=xs.length:=by
 cases fl with
 |own t=>obtain⟨⟨u,hu,h⟩,_⟩:=r;simp at hu;subst hu;rcases h with⟨⟨_,rfl⟩,rfl,_⟩|⟨b,o0,cap,arr,T,fr,fps,rfl,_⟩;exact⟨_,_,_,rfl,rfl⟩;exact⟨_,_,_,rfl,rfl⟩
 |arg _=>obtain⟨_,u,hu,h⟩:=r;simp at hu;subst hu;rcases h with⟨⟨ad,rfl⟩,rfl⟩|⟨b,o,cap,rfl,_⟩;exact⟨_,_,_,rfl,rfl⟩;exact⟨_,_,_,rfl,rfl⟩
 |loc ep pv=>exact r.2.2.1
 |nest _ _ _ _ _ _=>exact r.2.2.1
 |part _ _ _ _=>exact r.2.2.1
 |fe _ _ _=>obtain⟨_,⟨k,_,b,o0,cap,arr,T,fr,fps,rfl,_⟩,_⟩:=r;exact⟨_,_,_,rfl,rfl⟩
theorem Pm {b n o0 len cap t:Nat}{rt:kv}{e:CT}{i:Int}(hi:c.iss t)(hn:i=n)(hh:c.hdr t=.slice (some ⟨b,o0,none⟩) len cap)(hl:n<len):∀(cs:aq AC)(p:Nat){vs:ie},bn c vs cs []->
 (∀j u,vs[j]?=some u->c.S b (o0+n*e.size+(p+j))/\c.w.cell? ⟨b,o0+n*e.size+(p+j),none⟩=some u)->bn c vs (TX c.ep rt t e i p cs) []
 |[],_,vs,h,_=>by cases vs<;>exact h
 |x::cs,p,vs,h,hc=>by
  cases vs with
  |nil=>exact h.elim
  |cons v vs=>
   obtain⟨f1,f2,hf,h1,h2⟩:=h;have e1:f1=[]:=by have:=hf.symm;simp at this;exact this.1
   have e2:f2=[]:=by have:=hf.symm;simp at this;exact this.2
   subst e1;subst e2;have jx:=Pm (rt:=rt) (e:=e) hi hn hh hl cs (p+1) h2 (λj u hu=>by have:=hc (j+1) u (by simpa using hu);rwa[show p+(j+1)=p+1+j by omega]at this);have hv:=hc 0 v rfl;cases x with|sl fl e' xs=>refine⟨[],[],rfl,⟨rfl,aR _,?_,λ_=>⟨hi,n,b,o0,len,cap,hn,hh,hl,?_,?_⟩⟩,jx⟩;exact gM.header h1;have:=hv.1;rwa[dM]at this;have:=hv.2;rwa[dM]at this|int _ _=>exact⟨[],[],rfl,h1,jx⟩|bool _=>exact⟨[],[],rfl,h1,jx⟩|str _=>exact⟨[],[],rfl,h1,jx⟩|jB=>exact⟨[],[],rfl,h1,jx⟩|ptr _ _=>exact⟨[],[],rfl,h1,jx⟩|Da _ _ _ _ _=>exact⟨[],[],rfl,h1,jx⟩|fn _=>exact⟨[],[],rfl,h1,jx⟩|un=>exact⟨[],[],rfl,h1,jx⟩|bot=>exact⟨[],[],rfl,h1,jx⟩
theorem aiI {w:World}{v:Value}{xs:aq e.D}(h:ez hw w (.sl e) [v] xs fp0){n:Nat}{x:e.D}(hx:xs[n]?=some x): ∃b o0 cap arr T fr fx,v=.slice (some ⟨b,o0,none⟩) xs.length cap/\w.heap[b]?=some (.cells arr T fr)/\ez hw w e ((arr.toList.drop (o0+n*e.size)).take e.size) x fx:=by obtain⟨u,hu,h⟩:=h;simp at hu;subst hu;have JS:n<xs.length:=(aD.1 hx).1;rcases h with⟨⟨_,rfl⟩,rfl,rfl⟩|⟨b,o0,cap,arr,T,fr,fps,rfl,hb,qV,hs,hc,hh,rfl,hl,hr⟩;simp at hx;have NI:fps[n]?=some fps[n]:=al (by omega);exact⟨b,o0,cap,arr,T,fr,_,rfl,hb,hr n x _ hx NI⟩
theorem ZO {E:Env}(hE:js P E.ty){o:Oper}(ho:o.op=.load T p)(hg:dx C g st a w []){K:AS->au R}{x:e.D}{i:Int}(hT:iV E.ty T=some sh)(vS:gM (cy C g st w) (a.eval p) (.Da fl e x i off) [])(hk:FW o sh fl e i off st K=some r):nb P C o a w K r:=by
 unfold FW at hk;split at hk;rename_i ep rt t;obtain⟨_,b,ob,hv,_,_,IM⟩:=vS;obtain⟨_,n,o0,len,cap,uw,hrt,JS,hob⟩:=IM rt t rfl;split at hk;rename_i t' e' ys gX;split at hk;rename_i he;subst he;split at hk;rename_i hc;obtain⟨rfl,gI⟩:=hc;simp only at hk;cases E1:idx ys i with
 |none=>rw[E1]at hk;simp[aa]at hk
 |some y=>
  rw[E1]at hk;simp only[aa]at hk;have hyn:ys[n]?=some y:=by rw[uw]at E1;exact E1
  obtain⟨v0,f2,hh,eR,_,_,_⟩:=hg.Uc rt gX;obtain⟨b2,o2,U6,arr,T',fr,fx,MA,jw,IK⟩:=aiI eR hyn;have h1:=hh t' rfl;have h2:g.hdr t'=.slice (some ⟨b,o0,none⟩) len cap:=hrt;rw[h2,MA]at h1;simp only[Value.slice.injEq,aZ,Addr.mk.injEq]at h1;obtain⟨⟨rfl,rfl,_⟩,_⟩:=h1;have hln:((arr.toList.drop (o2+n*e'.size)).take e'.size).length=e'.size:=ez.length IK;have Ke:jf w (cy C g st w).S e' ((arr.toList.drop (o2+n*e'.size)).take e'.size) y:=ez.rep (λb o ho=> .inr ho) IK;have dD:bn (cy C g st w) ((arr.toList.drop (o2+n*e'.size)).take e'.size) (cellsOf e' (.loc st.ep none) y) []:=Ia (c:=cy C g st w) Ke;have AQ:∀j u,((((arr.toList.drop (o2+n*e'.size)).take e'.size).drop off).take sh.ct.size)[j]?=some u->w.cell? ⟨b2,ob+off+j,none⟩=some u:=by intro j u hu;rw[cW]at hu;split at hu;rw[bJ,cW]at hu;split at hu;rw[bJ,cg]at hu;rw[mZ jw,hob,fF];exact hu;cases hu;cases hu
  obtain⟨v,dJ,eh⟩:=Ab (hE T sh hT) b2 (ob+off) ((((arr.toList.drop (o2+n*e'.size)).take e'.size).drop off).take sh.ct.size) (by simp only[bm,bj]at hln⊢;omega) AQ;have IP:(execOp a.eval o).run P w=.ok (.value v) w:=by simp only[execOp,ho,hv,Instr.loadAt,Instr.sureAddr,Sem.run_bind,Sem.run_pure,Result.andThen_ok];show((loadVar T ⟨b2,ob+off,none⟩).run P w).andThen _=_;rw[dJ];rfl
  obtain⟨f1,f2',f3,hf,_,r2,_⟩:=dD.mid off sh.ct.size;have H5:f2'=[]:=by cases f2' with|nil=>rfl|cons y ys=>simp at hf
  subst H5;refine⟨_,_,_,.inl IP,⟨g,hg.quiet o.dst ?_⟩,hk⟩;exact⟨_,eh,r2⟩
 cases hk;cases hk;cases hk;cases hk
theorem Dc {fps:aq dX}{n:Nat}{f:dX}(h:fps[n]?=some f): fps.flatten=(fps.take n).flatten++f++(fps.drop (n+1)).flatten/\∀f',(fps.set n f').flatten=(fps.take n).flatten++f'++(fps.drop (n+1)).flatten:=by
 have hn:n<fps.length:=(aD.1 h).1;have hf:fps[n]=f:=by rw[al hn]at h;simpa using h
 constructor
 ·conv=>lhs;rw[<-cp n fps,cl hn,hf]
  simp
 intro f';rw[List.set_eq_take_append_cons_drop,aG hn];simp
theorem afm {w:World}{v:Value}{xs:aq e.D}(h:ez hw w (.sl e) [v] xs fp0){n:Nat}{x:e.D}(hx:xs[n]?=some x): ∃b o0 cap arr T fr f1 fx f3,v=.slice (some ⟨b,o0,none⟩) xs.length cap/\w.heap[b]?=some (.cells arr T fr)/\ez hw w e ((arr.toList.drop (o0+n*e.size)).take e.size) x fx/\ fp0=b::(f1++fx++f3)/\adz hw w e v xs n (b::(f1++f3)):=by obtain⟨u,hu,h⟩:=h;simp at hu;subst hu;have JS:n<xs.length:=(aD.1 hx).1;rcases h with⟨⟨_,rfl⟩,rfl,rfl⟩|⟨b,o0,cap,arr,T,fr,fps,rfl,hb,qV,hs,hc,hh,rfl,hl,hr⟩;simp at hx;have NI:fps[n]?=some fps[n]:=al (by omega);have IA:=Dc NI;refine⟨b,o0,cap,arr,T,fr,(fps.take n).flatten,fps[n],(fps.drop (n+1)).flatten,rfl,hb,hr n x _ hx NI,by rw[IA.1],?_⟩;refine⟨b,o0,cap,arr,T,fr,fps.set n [],rfl,hb,qV,hs,hc,hh,by rw[IA.2];simp,by simp[hl],JS,by rw[bl];simp[hl,JS],λi x' f hi AR hf=>?_⟩;rw[aO (cJ hi)]at hf;exact hr i x' f AR hf
theorem Uy {E:Env}(hE:js P E.ty){o:Oper}(ho:o.op=.load T p)(hg:dx C g st a w []){K:AS->au R}{x:e.D}{i:Int}(hT:iV E.ty T=some sh)(vS:gM (cy C g st w) (a.eval p) (.Da fl e x i off) [])(hk:Am o sh fl e i off st K=some r):nb P C o a w K r:=by
 unfold Am at hk;split at hk;rename_i ep rt t;obtain⟨_,b,ob,hv,_,_,IM⟩:=vS;obtain⟨_,n,o0,len,cap,uw,hrt,JS,hob⟩:=IM rt t rfl;split at hk;rename_i t' e' ys gX;split at hk;rename_i he;subst he;split at hk;rename_i hc;obtain⟨rfl,rfl,Mw⟩:=hc;simp only at hk;cases E1:idx ys i with
 |none=>rw[E1]at hk;simp[aa]at hk
 |some y=>
  rw[E1]at hk;simp only[aa]at hk;have hyn:ys[n]?=some y:=by rw[uw]at E1;exact E1
  obtain⟨v0,f2,He,C2,_,lG⟩:=hg.afA rt (by simp) gX;obtain⟨b2,o2,U6,arr,T',fr,f1,fx,f3,MA,jw,IK,C1,aji⟩:=afm He.1 hyn;have h1:=(He.2 t' rfl).2;have h2:g.hdr t'=.slice (some ⟨b,o0,none⟩) len cap:=hrt;have OI:v0=g.hdr t':=h1;rw[h2,MA]at OI;simp only[Value.slice.injEq,aZ,Addr.mk.injEq]at OI;obtain⟨⟨rfl,rfl,_⟩,_⟩:=OI;have jw:w.heap[b2]?=some (.cells arr T' fr):=jw;have hln:((arr.toList.drop (o2+n*e'.size)).take e'.size).length=e'.size:=ez.length IK;have AQ:∀j u,((arr.toList.drop (o2+n*e'.size)).take e'.size)[j]?=some u->w.cell? ⟨b2,ob+0+j,none⟩=some u:=by intro j u hu;rw[cW]at hu;split at hu;rw[bJ,cg]at hu;rw[mZ jw,hob,dM];exact hu;cases hu
  obtain⟨v,dJ,eh⟩:=Ab (hE T sh hT) b2 (ob+0) ((arr.toList.drop (o2+n*e'.size)).take e'.size) (by rw[hln,Mw]) AQ;have IP:(execOp a.eval o).run P w=.ok (.value v) w:=by simp only[execOp,ho,hv,Instr.loadAt,Instr.sureAddr,Sem.run_bind,Sem.run_pure,Result.andThen_ok];show((loadVar T ⟨b2,ob+0,none⟩).run P w).andThen _=_;rw[dJ];rfl
  rw[C1]at C2;have ti:=cQ.1 C2;have hn3:=ti.2;rw[aN]at hn3;have m1:=aB.1 hn3;have m2:=aB.1 m1.2.1;obtain⟨g',na⟩:=lG (.sl (.fe (some t') i (some st.ep)) e' ys) (b2::(f1++f3)) fx v (.val sh.agg (cellsOf e' (.own none) y)) (λc' hle Nh B7 xY=>by refine⟨λq hq=>?_,⟨n,uw,by rw[Nh,B7];exact aji⟩,λt ht=>?_⟩;simp at hq;subst hq;refine⟨by rw[xY];exact aR _,λ_=>?_⟩;refine ez.rep (hw:=c'.hw) (fp:=f2) (λb o ho=> .inr ho) ?_;rw[Nh,B7];exact He.1;simp at ht;subst ht;have h0:=He.2 t' rfl;exact⟨(hle.hdr t' h0.1).1,by rw[(hle.hdr t' h0.1).2];exact h0.2⟩) (by refine cQ.2 ⟨λhm=>ti.1 (by rcases az.1 hm with k|k<;>simp[k]),aB.2 ⟨m1.1,m2.2.1,?_⟩⟩;rintro c hc d hd rfl;exact m1.2.2 c hc c (ba _ hd) rfl) m2.1 (λc hc=>by rw[C1];rcases cv.1 hc with rfl|hc;exact⟨by simp,λhm=>ti.1 (by simp[hm])⟩;rcases az.1 hc with hc|hc;exact⟨by simp[hc],λhm=>m1.2.2 c hc c (bk _ hm) rfl⟩;exact⟨by simp[hc],λhm=>m2.2.2 c hm c hc rfl⟩) (λc hc=>by rw[C1];simp[hc]) ⟨_,eh,sE (c:=cy C g st w) IK⟩;exact⟨_,_,_,.inl IP,dx.FC na o.dst,hk⟩
 cases hk;cases hk;cases hk;cases hk
theorem acd {E:Env}(hE:js P E.ty){an:An}{o:Oper}(ho:o.op=.load T p)(h:nv C st a w){K:AS->au R}(hk:py E an o T p st K=some r):nb P C o a w K r:=by
 unfold py at hk;obtain⟨g,hg⟩:=id h;split at hk;rename_i sh s off hT hp;have vS:=hg.rd p;rw[hp]at vS;have vS:=DH vS;split at hk;rename_i cs jE;have jE:st.boxes[s]?=some (some cs):=by rw[dB]at jE;cases hq:st.boxes[s]? with|none=>rw[hq]at jE;simp at jE|some q=>rw[hq]at jE;simp at jE;rw[jE]
 split at hk;rename_i gI;obtain⟨arr,T',fr,fp,jw,qV,hr,hn,ti,hl,Hb,IQ⟩:=hg.boxes s cs jE;have hlen:=hr.length;have Tp:=Rh jw off sh.ct.size;obtain⟨v,dJ,eh⟩:=Ab (hE T sh hT) (g.β s) off ((arr.toList.drop off).take sh.ct.size) (by simp at hlen⊢;omega) Tp;have IP:(execOp a.eval o).run P w=.ok (.value v) w:=by simp only[execOp,ho,vS,Instr.loadAt,Instr.sureAddr,Sem.run_bind,Sem.run_pure,Result.andThen_ok];show((loadVar T ⟨g.β s,off,none⟩).run P w).andThen _=_;rw[dJ];rfl
 split at hk;rename_i d hd;split at hk;obtain⟨g',na⟩:=hg.aho s jE off sh.ct.size gI (gg:=sh.agg) (v:=v) (λaq2 T2 fr2 h2=>by rw[jw]at h2;simp at h2;obtain⟨rfl,_⟩:=h2;exact eh);refine⟨_,_,_,.inl IP,?_,hk⟩;rw[hd];exact dx.FC na (some d);refine⟨_,_,_,.inl IP,?_,hk⟩;rw[hd];refine⟨g,hg.quiet (some d) ⟨_,eh,?_⟩⟩;obtain⟨f1,f2,f3,_,_,r2,_⟩:=hr.mid off sh.ct.size;exact bn.borrow (c:=cy C g st w) (.box s) off r2;cases hk;cases hk;cases hk;rename_i sh fl e x i off hT hp;have vS:=hg.rd p;rw[hp]at vS;have vS:=dU vS;split at hk;exact Uy hE ho hg hT vS hk;split at hk;rename_i ph;split at hk;rename_i gI
 have key:∃b o cs,a.eval p=.pointer (some ⟨b,o+off,none⟩)/\(∀j v,cs[j]?=some v->w.cell? ⟨b,o+j,none⟩=some v)/\bn (cy C g st w) cs (cellsOf e fl.bare x) []/\
  ∀ep rt t,fl=.loc ep (some (rt,t))->(cy C g st w).iss t/\(∃n o0 len cap:Nat,i=n/\(cy C g st w).hdr t=.slice (some ⟨b,o0,none⟩) len cap/\n<len/\o=o0+n*e.size)/\∀j v,cs[j]?=some v->(cy C g st w).S b (o+j):=by
  cases fl with
  |own t=>exact vS.elim
  |nest _ _ _ _ _ _=>exact vS.elim
  |part _ _ _ _=>exact vS.elim
  |fe _ _ _=>exact vS.elim
  |arg _=>
   obtain⟨_,b,o,hv,cs,hc,hr⟩:=vS
   exact⟨b,o,cs,hv,λj v hj=>(hc j v hj).2,HQ hr,λ_ _ _ he=>by cases he⟩
  |loc ep pv=>
   obtain⟨_,b,o,hv,h2,h3,h4⟩:=vS
   have xY:ep=st.ep:=by simpa[qL.live]using ph
   obtain⟨cs,hc,hr⟩:=h3 xY
   exact⟨b,o,cs,hv,λj v hj=>(hc j v hj).2,by simp only[qL.bare];rw[xY];exact Ia hr,λep' rt t he=>by cases he;obtain⟨k1,k2⟩:=h4 rt t rfl;exact⟨k1,k2,λj v hj=>(hc j v hj).1⟩⟩
 obtain⟨b,ob,cs,hv,hc,dD,C3⟩:=key;have hlen:=dD.length;rw[kZ]at hlen;obtain⟨v,dJ,eh⟩:=Ab (hE T sh hT) b (ob+off) ((cs.drop off).take sh.ct.size) (by simp;omega) (λj u hu=>by rw[cW]at hu;split at hu;rw[bJ]at hu;have:=hc _ _ hu;rwa[<-fF]at this;cases hu);have IP:(execOp a.eval o).run P w=.ok (.value v) w:=by simp only[execOp,ho,hv,Instr.loadAt,Instr.sureAddr,Sem.run_bind,Sem.run_pure,Result.andThen_ok];show((loadVar T ⟨b,ob+off,none⟩).run P w).andThen _=_;rw[dJ];rfl
 obtain⟨f1,f2,f3,hf,_,r2,_⟩:=dD.mid off sh.ct.size;have H5:f2=[]:=by cases f2 with|nil=>rfl|cons y ys=>simp at hf
 subst H5;refine⟨_,_,_,.inl IP,⟨g,hg.quiet o.dst ?_⟩,hk⟩;refine⟨_,eh,?_⟩;unfold aff;split;rename_i d _ _ _ _;cases an.nest.contains d with|false=>exact r2|true=>simp only[af];obtain⟨k1,⟨n,o0,len,cap,hi,hh,JS,Nj⟩,hS⟩:=C3 _ _ _ rfl;refine Pm (b:=b) (n:=n) (o0:=o0) (len:=len) (cap:=cap) k1 hi hh JS _ off r2 (λj u hu=>?_);rw[cW]at hu;split at hu;rw[bJ]at hu;rw[<-Nj];exact⟨hS _ _ hu,hc _ _ hu⟩;cases hu
 exact r2;cases hk;exact ZO hE ho hg hT vS hk;cases hk
theorem I7 (h:off+vs.length<=cs.length):(db cs off vs).length=cs.length:=by simp[db];omega
theorem I8 {E:Env}(hE:js P E.ty){o:Oper}{x:Operand}(hd:o.dst=none)(ho:o.op=.store T p x){K:AS->au R}{s:Nat}{st':AS}{g':Gh}(hT:iV E.ty T=some sh)(vS:a.eval p=.pointer (some ⟨g'.β s,off,none⟩))(na:dx C g' st' a w [(a.eval x,.val gg vs)])(jE:(nth st'.boxes s).getD none=some cs)(hlen:vs.length=sh.ct.size)(aeC:vs.all AC.KT=true)(gI:off+sh.ct.size<=cs.length)(hk:K (st'.eG s (some (db cs off vs)))=some r):nb P C o a w K r:=by
 have jE:st'.boxes[s]?=some (some cs):=by rw[dB]at jE;cases hq:st'.boxes[s]? with|none=>rw[hq]at jE;simp at jE|some q=>rw[hq]at jE;simp at jE;rw[jE]
 obtain⟨arr,T',fr,fp,jw,qV,hr,hn,ti,hl,Hb,IQ⟩:=na.boxes s cs jE;obtain⟨fh,⟨us,eh,XC⟩,Mz,VC⟩:=na.hands 0 _ _ rfl;have h1:=XC.np aeC;have hul:=XC.length;have hal:=hr.length;have ahK:off+us.length<=arr.size:=by simp at hal;omega
 have VJ:=FX (P:=P) (w:=w) (hE T sh hT) (g'.β s) off eh (by omega) h1 jw qV ahK;have dJ:(execOp a.eval o).run P w=.ok .skip (vt w (g'.β s) (eF arr off us) T' fr):=by simp only[execOp,ho,vS,Instr.storeAt,Instr.sureAddr,Sem.run_bind,Sem.run_pure,Result.andThen_ok];show((storeVar T ⟨g'.β s,off,none⟩ (a.eval x)).run P w).andThen _=_;rw[VJ];rfl
 have II:=mr jw;obtain⟨f1,f2,f3,rfl,r1,r2,r3⟩:=hr.mid off us.length;have Cb:=hn;rw[aN]at Cb;have n1:=aB.1 Cb;have n2:=aB.1 n1.2.1;have QE:∀b∈fh,b≠g'.β s/\b∉f1++f2++f3:=by intro b hb;have RF:=VC b hb;refine⟨λe=>?_,λhm=>?_⟩;rw[e,Hb]at RF;cases RF;rw[hl b hm]at RF;cases RF
 have aih:Fr (λb=>cY (g'.dK b)\/b=g'.β s) w (vt w (g'.β s) (eF arr off us) T' fr):=⟨rfl,rfl,rfl,by rw[lV];exact aR _,λb _ hb=>mY (λe=>hb (.inr e))⟩
 have aqO:∀t,(if t=s then g'.β s else g'.β t)=g'.β t:=by intro t;split<;>simp_all
 have hle:(cy C g' st' w).Le ⟨g'.hw,λt=>if t=s then g'.β s else g'.β t,C.A,g'.hdr,lL st',st'.ep,gA st',vt w (g'.β s) (eF arr off us) T' fr⟩:=by
  refine⟨rfl,λ_ ht=>⟨ht,rfl⟩,λk b o u hA hu=>?_,aR _,λt ht=>⟨ht,aqO t⟩,λ_ b o u ho hu=>⟨ho,?_⟩⟩;have E4:b≠g'.β s:=by rintro rfl;exact na.LM Hb k o hA
  rw[World.cell?_of_block (a:=⟨b,o,none⟩) (mY E4)];exact hu;have E4:b≠g'.β s:=by rintro rfl;have Nj:o<g'.hw (g'.β s):=ho;rw[IQ]at Nj;omega
  rw[World.cell?_of_block (a:=⟨b,o,none⟩) (mY E4)];exact hu
 have me:∀b,b≠g'.β s->(vt w (g'.β s) (eF arr off us) T' fr).heap[b]?=w.heap[b]?:=λb hb=>mY hb;have dD:bn ⟨g'.hw,λt=>if t=s then g'.β s else g'.β t,C.A,g'.hdr,lL st',st'.ep,gA st',vt w (g'.β s) (eF arr off us) T' fr⟩ (eF arr off us).toList (db cs off vs) (f1++fh++f3):=by
  rw[xm us arr off ahK];have e2:db cs off vs=cs.take off++vs++cs.drop (off+us.length):=by simp only[db];rw[hul]
  rw[e2];refine((r1.mono hle (λb hb=>⟨me b (λe=>ti (by rw[<-e];simp[hb])),rfl⟩)).append (XC.mono hle (λb hb=>⟨me b (QE b hb).1,rfl⟩))).append (r3.mono hle (λb hb=>⟨me b (λe=>ti (by rw[<-e];simp[hb])),rfl⟩))
 have air:(f1++fh++f3).Nodup:=by rw[aN];refine aB.2 ⟨n1.1,aB.2 ⟨Mz,n2.2.1,?_⟩,?_⟩;rintro b hb c hc rfl;exact(QE b hb).2 (by simp[hc]);rintro b hb c hc rfl;rcases az.1 hc with hc|hc;exact(QE b hc).2 (by simp[hb]);exact n1.2.2 b hb b (ba _ hc) rfl
 obtain⟨g2,_,Ju⟩:=na.XV s (bnew:=g'.β s) (hw':=g'.hw) (.inl ⟨rfl,Hb⟩) aih (yB II) (λj hj=>qV j (by rwa[iD]at hj)) (by rw[lV];exact II) IQ
  (λ_ _ _ _ _=>rfl) (λb o u ho hu=>hle.acM rfl b o u ho hu) dD air
  (by intro hm;simp only[az]at hm
      rcases hm with(hm|hm)|hm
      ·exact ti (by simp[hm])
      ·exact(QE _ hm).1 rfl
      ·exact ti (by simp[hm]))
  (by intro b hm;rw[lV];simp only[az]at hm
      rcases hm with(hm|hm)|hm
      ·exact⟨(na.fB b _ (hl b (by simp[hm]))).1,.inr (.inl (hl b (by simp[hm])))⟩
      ·exact⟨(na.fB b _ (VC b hm)).1,.inl (by rw[VC b hm];rfl)⟩
      ·exact⟨(na.fB b _ (hl b (by simp[hm]))).1,.inr (.inl (hl b (by simp[hm])))⟩)
 refine⟨undef,_,_,.inr ⟨rfl,dJ⟩,?_,hk⟩;rw[hd];exact⟨g2,Ju⟩
theorem Q6 {E:Env}(hE:js P E.ty){o:Oper}{x:Operand}(hd:o.dst=none)(ho:o.op=.store T p x)(h:nv C st a w){K:AS->au R}{s:Nat}{st':AS}(hT:iV E.ty T=some sh)(hp:st.rd p=.val false [.ptr s off])(tF:st.take x=(.val gg vs,st'))(jE:(nth st'.boxes s).getD none=some cs)(hlen:vs.length=sh.ct.size)(aeC:vs.all AC.KT=true)(gI:off+sh.ct.size<=cs.length)(hk:K (st'.eG s (some (db cs off vs)))=some r):nb P C o a w K r:=by obtain⟨g,hg⟩:=h;have vS:=hg.rd p;rw[hp]at vS;have vS:=DH vS;obtain⟨g',⟨Jx,_⟩,na⟩:=hg.af2 x;rw[tF]at na;exact I8 hE hd ho hT (by rw[Jx];exact vS) na jE hlen aeC gI hk
end Go.Dn
