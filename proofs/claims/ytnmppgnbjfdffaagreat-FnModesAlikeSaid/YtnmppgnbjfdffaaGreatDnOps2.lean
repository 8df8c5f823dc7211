import Derived.Test.YtnmppgnbjfdffaaGreatDnOps1
/- Part 2: loads and stores. -/
namespace Go.Dn
open Go.RowKit
variable {P:Program} {C:Ctx} {st:AS} {a:Act} {w:World} {R:Type} {r:R}
variable {gg:Bool} {e:CT} {fl:qL} {g:Gh} {i:Int} {n off:Nat} {hw:Nat->Nat} {p:Operand} {c:RC} {sh:Shape} {T:TypeId} {v:Value} {cs vs:ay AC} {fp fp0:fR}
theorem bR.mid {vs:jz}{xs:ay AC}(h:bR c vs xs fp)(off n:Nat): ∃f1 f2 f3,fp=f1++f2++f3/\bR c (vs.take off) (xs.take off) f1/\bR c ((vs.drop off).take n) ((xs.drop off).take n) f2/\bR c (vs.drop (off+n)) (xs.drop (off+n)) f3:=by obtain⟨f1,g1,rfl,r1,r2⟩:=h.split off;obtain⟨f2,f3,rfl,r3,r4⟩:=r2.split n;rw[eO,eO]at r4;exact⟨f1,f2,f3,by simp,r1,r3,r4⟩
theorem O9 {w:World}{b:Nat}{arr:Array Value}{fr:Nat×Nat}(hb:w.heap[b]?=some (.cells arr T fr))(off n:Nat): ∀j v,((arr.toList.drop off).take n)[j]?=some v->w.cell? ⟨b,off+j,none⟩=some v:=by intro j v hv;rw[dW]at hv;split at hv;rw[bK,cG]at hv;rw[po hb];exact hv;cases hv
theorem Bk {s:Nat}(h:gW c v (.val false [.ptr s off]) fp):v=.pointer (some ⟨c.β s,off,none⟩):=(fi h).1
theorem eK.ahN (h:eK C g st a w [])(s:Nat)(hb:st.boxes[s]?=some (some cs))(off n:Nat)(iB:off+n<=cs.length)(gm:∀arr T fr,w.heap[g.β s]?=some (.cells arr T fr)->Cut gg v ((arr.toList.drop off).take n)): ∃g',eK C g' (st.fD s (some (eX cs off (bf st.ep ((cs.drop off).take n))))) a w [(v,.val gg ((cs.drop off).take n))]:=by
 obtain⟨arr,T,fr,fp,kU,sE,hr,hn,wA,hl,GQ,GS⟩:=h.boxes s cs hb;obtain⟨f1,f2,f3,rfl,r1,r2,r3⟩:=hr.mid off n;have Cx:=hn;rw[aD]at Cx;have n1:=aM.1 Cx;have n2:=aM.1 n1.2.1;have yL:s<st.boxes.length:=(aB.1 hb).1;let g':Gh:={g with fe:=λb=>if b∈f2 then some (.hand 0) else g.fe b}
 let bX:AS:=st.fD s (some (eX cs off (bf st.ep ((cs.drop off).take n))));have hle:(dk C g st w).Le (dk C g' bX w):=PX rfl (λ_ _ _ _ _ hv=>hv) (λ_ _=>rfl) (λ_ _ _ ho hu=>⟨ho,hu⟩);have VX:∀b y,g.fe b=some y->b∉f2->g'.fe b=some y:=by intro b y hb hm;show(if b∈f2 then _ else _)=_;rw[aH hm];exact hb
 have KR:∀b y,y≠ .box s->g.fe b=some y->b∉f2:=λb y hy hb hm=>hy (by have:=hl b (by simp[hm]);rw[hb]at this;simpa using this);refine⟨g',h.step (λy=>y≠ .box s) hle h.defers h.size (by show(st.fD s _).boxes.length=st.slots.length;rw[kQ,aK];exact h.bsize) h.frame ?_ (λb y hy hb=>⟨VX b y hb (KR b y hy hb),rfl,rfl⟩) ?_ ?_ ?_ (.inl ⟨by simp,rfl⟩)⟩;intro b y hy;have SR:(if b∈f2 then some (kI.hand 0) else g.fe b)=some y:=hy;by_cases hm:b∈f2;exact h.gY b _ (hl b (by simp[hm]));rw[aH hm]at SR;exact h.gY b y SR;exact λi av hi=> .inl ⟨by simp,hi,rfl⟩;intro t qO ht;have V1:(st.boxes.set s (some (eX cs off (bf st.ep ((cs.drop off).take n)))))[t]?=some (some qO):=by rw[<-kQ];exact ht
 by_cases tz:t=s;subst tz;rw[bH]at V1;simp only[cc,yL]at V1;simp at V1;subst V1;have IY:eX cs off (bf st.ep ((cs.drop off).take n))=cs.take off++bf st.ep ((cs.drop off).take n)++cs.drop (off+n):=by simp only[eX,bf,cI,aY,aP];rw[iX (by omega)]
 refine .inr ⟨arr,T,fr,f1++f3,kU,sE,?_,?_,?_,?_,?_,GS⟩;have e:arr.toList=arr.toList.take off++(arr.toList.drop off).take n++arr.toList.drop (off+n):=by rw[<-eO,aD,cz,cz]
 have hm1:=r1.mono hle (λb _=>⟨rfl,rfl⟩);have hm2:=(r2.bf).mono hle (by simp);have hm3:=r3.mono hle (λb _=>⟨rfl,rfl⟩);have hm4:=(hm1.append hm2).append hm3;rw[<-e,bA]at hm4;have e3:cs.take off++bf (dk C g st w).ep ((cs.drop off).take n)++cs.drop (off+n)=eX cs off (bf st.ep ((cs.drop off).take n)):=IY.symm;rw[e3]at hm4;exact hm4;refine aM.2 ⟨n1.1,n2.2.1,?_⟩;rintro b hb c hc rfl;exact n1.2.2 b hb b (bj _ hc) rfl;intro hm;have hm':g.β t∈f1++f3:=hm;refine wA ?_;rcases ax.1 hm' with k|k;exact aR _ (aR _ k);exact bj _ k;intro b hb;refine VX b _ (hl b (by simp at hb⊢;rcases hb with hb|hb<;>simp[hb])) ?_;intro hm;rcases ax.1 hb with hb|hb;exact n1.2.2 b hb b (aR _ hm) rfl;exact n2.2.2 b hm b hb rfl;refine VX _ _ GQ (λhm=>wA ?_);have hm':g.β t∈f2:=hm;exact aR _ (bj _ hm');rw[aJ (cr tz)]at V1;exact .inl ⟨by simpa using tz,V1,rfl⟩;intro k u av hk;cases k with
 |zero=>simp only[cM,bu,Prod.mk.injEq]at hk;obtain⟨rfl,rfl⟩:=hk;refine .inr ⟨f2,⟨_,gm arr T fr kU,r2.mono hle (λb _=>⟨rfl,rfl⟩)⟩,n2.1,λb hb=>?_⟩;show(if b∈f2 then _ else _)=_;rw[aF hb]
 |succ k=>simp at hk
theorem iI.header {xs:ay e.D}(r:iI c v (.sl fl e xs) fp):∃o n k,v=.slice o n k/\n=xs.length:=by
 cases fl with
 |own t=>obtain⟨⟨u,hu,h⟩,_⟩:=r;simp at hu;subst hu;rcases h with⟨⟨_,rfl⟩,rfl,_⟩|⟨b,o0,cap,arr,T,fr,fps,rfl,_⟩;exact⟨_,_,_,rfl,rfl⟩;exact⟨_,_,_,rfl,rfl⟩
 |arg _=>obtain⟨_,u,hu,h⟩:=r;simp at hu;subst hu;rcases h with⟨⟨ad,rfl⟩,rfl⟩|⟨b,o,cap,rfl,_⟩;exact⟨_,_,_,rfl,rfl⟩;exact⟨_,_,_,rfl,rfl⟩
 |loc ep pv=>exact r.2.2.1
 |nest _ _ _ _ _ _=>exact r.2.2.1
 |part _ _ _ _=>exact r.2.2.1
 |gj _ _ _=>obtain⟨_,⟨k,_,b,o0,cap,arr,T,fr,fps,rfl,_⟩,_⟩:=r;exact⟨_,_,_,rfl,rfl⟩
theorem M7 {b o0 len cap t:Nat}{rt:lq}{e:CT}(hi:c.iss t)(hn:i=n)(hh:c.hdr t=.slice (some ⟨b,o0,none⟩) len cap)(hl:n<len):∀(cs:ay AC)(p:Nat){vs:jz},bR c vs cs []->
 (∀j u,vs[j]?=some u->c.S b (o0+n*e.size+(p+j))/\c.w.cell? ⟨b,o0+n*e.size+(p+j),none⟩=some u)->bR c vs (R7 c.ep rt t e i p cs) []
 |[],_,vs,h,_=>by cases vs<;>exact h
 |x::cs,p,vs,h,hc=>by
  cases vs with
  |nil=>exact h.elim
  |cons v vs=>
   obtain⟨f1,f2,hf,h1,h2⟩:=h;have e1:f1=[]:=by have:=hf.symm;simp at this;exact this.1
   have e2:f2=[]:=by have:=hf.symm;simp at this;exact this.2
   subst e1;subst e2;have uu:=M7 (rt:=rt) (e:=e) hi hn hh hl cs (p+1) h2 (λj u hu=>by have:=hc (j+1) u (by simpa using hu);rwa[show p+(j+1)=p+1+j by omega]at this);have hv:=hc 0 v rfl;cases x with|sl fl e' xs=>refine⟨[],[],rfl,⟨rfl,aV _,?_,λ_=>⟨hi,n,b,o0,len,cap,hn,hh,hl,?_,?_⟩⟩,uu⟩;exact iI.header h1;have:=hv.1;rwa[dX]at this;have:=hv.2;rwa[dX]at this|int _ _=>exact⟨[],[],rfl,h1,uu⟩|bool _=>exact⟨[],[],rfl,h1,uu⟩|str _=>exact⟨[],[],rfl,h1,uu⟩|kx=>exact⟨[],[],rfl,h1,uu⟩|ptr _ _=>exact⟨[],[],rfl,h1,uu⟩|BA _ _ _ _ _=>exact⟨[],[],rfl,h1,uu⟩|fn _=>exact⟨[],[],rfl,h1,uu⟩|un=>exact⟨[],[],rfl,h1,uu⟩|bot=>exact⟨[],[],rfl,h1,uu⟩
theorem aka {w:World}{xs:ay e.D}(h:gi hw w (.sl e) [v] xs fp0){x:e.D}(hx:xs[n]?=some x): ∃b o0 cap arr T fr fx,v=.slice (some ⟨b,o0,none⟩) xs.length cap/\w.heap[b]?=some (.cells arr T fr)/\gi hw w e ((arr.toList.drop (o0+n*e.size)).take e.size) x fx:=by obtain⟨u,hu,h⟩:=h;simp at hu;subst hu;have J8:n<xs.length:=(aB.1 hx).1;rcases h with⟨⟨_,rfl⟩,rfl,rfl⟩|⟨b,o0,cap,arr,T,fr,fps,rfl,hb,sE,hs,hc,hh,rfl,hl,hr⟩;simp at hx;have TU:fps[n]?=some fps[n]:=aw (by omega);exact⟨b,o0,cap,arr,T,fr,_,rfl,hb,hr n x _ hx TU⟩
theorem Yy {E:Env}(hE:jX P E.ty){o:Oper}(ho:o.op=.load T p)(hg:eK C g st a w []){K:AS->aC R}{x:e.D}(hT:jN E.ty T=some sh)(uK:iI (dk C g st w) (a.eval p) (.BA fl e x i off) [])(hk:Da o sh fl e i off st K=some r):nm P C o a w K r:=by
 unfold Da at hk;split at hk;rename_i ep rt t;obtain⟨_,b,ob,hv,_,_,FN⟩:=uK;obtain⟨_,n,o0,len,cap,uN,hrt,J8,hob⟩:=FN rt t rfl;split at hk;rename_i t' e' ys iP;split at hk;rename_i he;subst he;split at hk;rename_i hc;obtain⟨rfl,iB⟩:=hc;simp only at hk;cases Ed:idx ys i with
 |none=>rw[Ed]at hk;simp[aa]at hk
 |some y=>
  rw[Ed]at hk;simp only[aa]at hk;have hyn:ys[n]?=some y:=by rw[uN]at Ed;exact Ed
  obtain⟨v0,f2,hh,iL,_,_,_⟩:=hg.Sj rt iP;obtain⟨b2,o2,Wp,arr,T',fr,fx,MD,kU,Mz⟩:=aka iL hyn;have h1:=hh t' rfl;have h2:g.hdr t'=.slice (some ⟨b,o0,none⟩) len cap:=hrt;rw[h2,MD]at h1;simp only[Value.slice.injEq,bu,Addr.mk.injEq]at h1;obtain⟨⟨rfl,rfl,_⟩,_⟩:=h1;have hln:((arr.toList.drop (o2+n*e'.size)).take e'.size).length=e'.size:=gi.length Mz;have Ho:jP w (dk C g st w).S e' ((arr.toList.drop (o2+n*e'.size)).take e'.size) y:=gi.rep (λb o ho=> .inr ho) Mz;have fJ:bR (dk C g st w) ((arr.toList.drop (o2+n*e'.size)).take e'.size) (cellsOf e' (.loc st.ep none) y) []:=Fk (c:=dk C g st w) Ho;have B5:∀j u,((((arr.toList.drop (o2+n*e'.size)).take e'.size).drop off).take sh.ct.size)[j]?=some u->w.cell? ⟨b2,ob+off+j,none⟩=some u:=by intro j u hu;rw[dW]at hu;split at hu;rw[bK,dW]at hu;split at hu;rw[bK,cG]at hu;rw[po kU,hob,fV];exact hu;cases hu;cases hu
  obtain⟨v,fb,gm⟩:=xT (hE T sh hT) b2 (ob+off) ((((arr.toList.drop (o2+n*e'.size)).take e'.size).drop off).take sh.ct.size) (by simp only[aY,aP]at hln⊢;omega) B5;have FO:(execOp a.eval o).run P w=.ok (.value v) w:=by simp only[execOp,ho,hv,Instr.loadAt,Instr.sureAddr,Sem.run_bind,Sem.run_pure,Result.andThen_ok];show((loadVar T ⟨b2,ob+off,none⟩).run P w).andThen _=_;rw[fb];rfl
  obtain⟨f1,f2',f3,hf,_,r2,_⟩:=fJ.mid off sh.ct.size;have B8:f2'=[]:=by cases f2' with|nil=>rfl|cons y ys=>simp at hf
  subst B8;refine⟨_,_,_,.inl FO,⟨g,hg.quiet o.dst ?_⟩,hk⟩;exact⟨_,gm,r2⟩
 cases hk;cases hk;cases hk;cases hk
theorem D4 {fps:ay fR}{f:fR}(h:fps[n]?=some f): fps.flatten=(fps.take n).flatten++f++(fps.drop (n+1)).flatten/\∀f',(fps.set n f').flatten=(fps.take n).flatten++f'++(fps.drop (n+1)).flatten:=by
 have hn:n<fps.length:=(aB.1 h).1;have hf:fps[n]=f:=by rw[aw hn]at h;simpa using h
 constructor
 ·conv=>lhs;rw[<-cz n fps,ca hn,hf]
  simp
 intro f';rw[List.set_eq_take_append_cons_drop,aF hn];simp
theorem ae8 {w:World}{xs:ay e.D}(h:gi hw w (.sl e) [v] xs fp0){x:e.D}(hx:xs[n]?=some x): ∃b o0 cap arr T fr f1 fx f3,v=.slice (some ⟨b,o0,none⟩) xs.length cap/\w.heap[b]?=some (.cells arr T fr)/\gi hw w e ((arr.toList.drop (o0+n*e.size)).take e.size) x fx/\ fp0=b::(f1++fx++f3)/\ac0 hw w e v xs n (b::(f1++f3)):=by obtain⟨u,hu,h⟩:=h;simp at hu;subst hu;have J8:n<xs.length:=(aB.1 hx).1;rcases h with⟨⟨_,rfl⟩,rfl,rfl⟩|⟨b,o0,cap,arr,T,fr,fps,rfl,hb,sE,hs,hc,hh,rfl,hl,hr⟩;simp at hx;have TU:fps[n]?=some fps[n]:=aw (by omega);have GP:=D4 TU;refine⟨b,o0,cap,arr,T,fr,(fps.take n).flatten,fps[n],(fps.drop (n+1)).flatten,rfl,hb,hr n x _ hx TU,by rw[GP.1],?_⟩;refine⟨b,o0,cap,arr,T,fr,fps.set n [],rfl,hb,sE,hs,hc,hh,by rw[GP.2];simp,by simp[hl],J8,by rw[bH];simp[hl,J8],λi x' f hi AG hf=>?_⟩;rw[aJ (cr hi)]at hf;exact hr i x' f AG hf
theorem SE {E:Env}(hE:jX P E.ty){o:Oper}(ho:o.op=.load T p)(hg:eK C g st a w []){K:AS->aC R}{x:e.D}(hT:jN E.ty T=some sh)(uK:iI (dk C g st w) (a.eval p) (.BA fl e x i off) [])(hk:ya o sh fl e i off st K=some r):nm P C o a w K r:=by
 unfold ya at hk;split at hk;rename_i ep rt t;obtain⟨_,b,ob,hv,_,_,FN⟩:=uK;obtain⟨_,n,o0,len,cap,uN,hrt,J8,hob⟩:=FN rt t rfl;split at hk;rename_i t' e' ys iP;split at hk;rename_i he;subst he;split at hk;rename_i hc;obtain⟨rfl,rfl,J6⟩:=hc;simp only at hk;cases Ed:idx ys i with
 |none=>rw[Ed]at hk;simp[aa]at hk
 |some y=>
  rw[Ed]at hk;simp only[aa]at hk;have hyn:ys[n]?=some y:=by rw[uN]at Ed;exact Ed
  obtain⟨v0,f2,PE,DJ,_,qJ⟩:=hg.afo rt (by simp) iP;obtain⟨b2,o2,Wp,arr,T',fr,f1,fx,f3,MD,kU,Mz,Dw,ak8⟩:=ae8 PE.1 hyn;have h1:=(PE.2 t' rfl).2;have h2:g.hdr t'=.slice (some ⟨b,o0,none⟩) len cap:=hrt;have N9:v0=g.hdr t':=h1;rw[h2,MD]at N9;simp only[Value.slice.injEq,bu,Addr.mk.injEq]at N9;obtain⟨⟨rfl,rfl,_⟩,_⟩:=N9;have kU:w.heap[b2]?=some (.cells arr T' fr):=kU;have hln:((arr.toList.drop (o2+n*e'.size)).take e'.size).length=e'.size:=gi.length Mz;have B5:∀j u,((arr.toList.drop (o2+n*e'.size)).take e'.size)[j]?=some u->w.cell? ⟨b2,ob+0+j,none⟩=some u:=by intro j u hu;rw[dW]at hu;split at hu;rw[bK,cG]at hu;rw[po kU,hob,dX];exact hu;cases hu
  obtain⟨v,fb,gm⟩:=xT (hE T sh hT) b2 (ob+0) ((arr.toList.drop (o2+n*e'.size)).take e'.size) (by rw[hln,J6]) B5;have FO:(execOp a.eval o).run P w=.ok (.value v) w:=by simp only[execOp,ho,hv,Instr.loadAt,Instr.sureAddr,Sem.run_bind,Sem.run_pure,Result.andThen_ok];show((loadVar T ⟨b2,ob+0,none⟩).run P w).andThen _=_;rw[fb];rfl
  rw[Dw]at DJ;have wA:=dI.1 DJ;have hn3:=wA.2;rw[aD]at hn3;have m1:=aM.1 hn3;have m2:=aM.1 m1.2.1;obtain⟨g',oB⟩:=qJ (.sl (.gj (some t') i (some st.ep)) e' ys) (b2::(f1++f3)) fx v (.val sh.agg (cellsOf e' (.own none) y)) (λc' hle SP FC yi=>by refine⟨λq hq=>?_,⟨n,uN,by rw[SP,FC];exact ak8⟩,λt ht=>?_⟩;simp at hq;subst hq;refine⟨by rw[yi];exact aV _,λ_=>?_⟩;refine gi.rep (hw:=c'.hw) (fp:=f2) (λb o ho=> .inr ho) ?_;rw[SP,FC];exact PE.1;simp at ht;subst ht;have h0:=PE.2 t' rfl;exact⟨(hle.hdr t' h0.1).1,by rw[(hle.hdr t' h0.1).2];exact h0.2⟩) (by refine dI.2 ⟨λhm=>wA.1 (by rcases ax.1 hm with k|k<;>simp[k]),aM.2 ⟨m1.1,m2.2.1,?_⟩⟩;rintro c hc d hd rfl;exact m1.2.2 c hc c (bj _ hd) rfl) m2.1 (λc hc=>by rw[Dw];rcases cw.1 hc with rfl|hc;exact⟨by simp,λhm=>wA.1 (by simp[hm])⟩;rcases ax.1 hc with hc|hc;exact⟨by simp[hc],λhm=>m1.2.2 c hc c (aR _ hm) rfl⟩;exact⟨by simp[hc],λhm=>m2.2.2 c hm c hc rfl⟩) (λc hc=>by rw[Dw];simp[hc]) ⟨_,gm,zM (c:=dk C g st w) Mz⟩;exact⟨_,_,_,.inl FO,eK.C1 oB o.dst,hk⟩
 cases hk;cases hk;cases hk;cases hk
theorem abw {E:Env}(hE:jX P E.ty){an:An}{o:Oper}(ho:o.op=.load T p)(h:oE C st a w){K:AS->aC R}(hk:pC E an o T p st K=some r):nm P C o a w K r:=by
 unfold pC at hk;obtain⟨g,hg⟩:=id h;split at hk;rename_i sh s off hT hp;have uK:=hg.rd p;rw[hp]at uK;have uK:=Bk uK;split at hk;rename_i cs kC;have kC:st.boxes[s]?=some (some cs):=by rw[eH]at kC;cases hq:st.boxes[s]? with|none=>rw[hq]at kC;simp at kC|some q=>rw[hq]at kC;simp at kC;rw[kC]
 split at hk;rename_i iB;obtain⟨arr,T',fr,fp,kU,sE,hr,hn,wA,hl,GQ,GS⟩:=hg.boxes s cs kC;have hlen:=hr.length;have ajl:=O9 kU off sh.ct.size;obtain⟨v,fb,gm⟩:=xT (hE T sh hT) (g.β s) off ((arr.toList.drop off).take sh.ct.size) (by simp at hlen⊢;omega) ajl;have FO:(execOp a.eval o).run P w=.ok (.value v) w:=by simp only[execOp,ho,uK,Instr.loadAt,Instr.sureAddr,Sem.run_bind,Sem.run_pure,Result.andThen_ok];show((loadVar T ⟨g.β s,off,none⟩).run P w).andThen _=_;rw[fb];rfl
 split at hk;rename_i d hd;split at hk;obtain⟨g',oB⟩:=hg.ahN s kC off sh.ct.size iB (gg:=sh.agg) (v:=v) (λaqi T2 fr2 h2=>by rw[kU]at h2;simp at h2;obtain⟨rfl,_⟩:=h2;exact gm);refine⟨_,_,_,.inl FO,?_,hk⟩;rw[hd];exact eK.C1 oB (some d);refine⟨_,_,_,.inl FO,?_,hk⟩;rw[hd];refine⟨g,hg.quiet (some d) ⟨_,gm,?_⟩⟩;obtain⟨f1,f2,f3,_,_,r2,_⟩:=hr.mid off sh.ct.size;exact bR.borrow (c:=dk C g st w) (.box s) off r2;cases hk;cases hk;cases hk;rename_i sh fl e x i off hT hp;have uK:=hg.rd p;rw[hp]at uK;have uK:=fi uK;split at hk;exact SE hE ho hg hT uK hk;split at hk;rename_i pw;split at hk;rename_i iB
 have key:∃b o cs,a.eval p=.pointer (some ⟨b,o+off,none⟩)/\(∀j v,cs[j]?=some v->w.cell? ⟨b,o+j,none⟩=some v)/\bR (dk C g st w) cs (cellsOf e fl.bare x) []/\
  ∀ep rt t,fl=.loc ep (some (rt,t))->(dk C g st w).iss t/\(∃n o0 len cap:Nat,i=n/\(dk C g st w).hdr t=.slice (some ⟨b,o0,none⟩) len cap/\n<len/\o=o0+n*e.size)/\∀j v,cs[j]?=some v->(dk C g st w).S b (o+j):=by
  cases fl with
  |own t=>exact uK.elim
  |nest _ _ _ _ _ _=>exact uK.elim
  |part _ _ _ _=>exact uK.elim
  |gj _ _ _=>exact uK.elim
  |arg _=>
   obtain⟨_,b,o,hv,cs,hc,hr⟩:=uK
   exact⟨b,o,cs,hv,λj v hj=>(hc j v hj).2,E0 hr,λ_ _ _ he=>by cases he⟩
  |loc ep pv=>
   obtain⟨_,b,o,hv,h2,h3,h4⟩:=uK
   have yi:ep=st.ep:=by simpa[qL.live]using pw
   obtain⟨cs,hc,hr⟩:=h3 yi
   exact⟨b,o,cs,hv,λj v hj=>(hc j v hj).2,by simp only[qL.bare];rw[yi];exact Fk hr,λep' rt t he=>by cases he;obtain⟨k1,k2⟩:=h4 rt t rfl;exact⟨k1,k2,λj v hj=>(hc j v hj).1⟩⟩
 obtain⟨b,ob,cs,hv,hc,fJ,DE⟩:=key;have hlen:=fJ.length;rw[lG]at hlen;obtain⟨v,fb,gm⟩:=xT (hE T sh hT) b (ob+off) ((cs.drop off).take sh.ct.size) (by simp;omega) (λj u hu=>by rw[dW]at hu;split at hu;rw[bK]at hu;have:=hc _ _ hu;rwa[<-fV]at this;cases hu);have FO:(execOp a.eval o).run P w=.ok (.value v) w:=by simp only[execOp,ho,hv,Instr.loadAt,Instr.sureAddr,Sem.run_bind,Sem.run_pure,Result.andThen_ok];show((loadVar T ⟨b,ob+off,none⟩).run P w).andThen _=_;rw[fb];rfl
 obtain⟨f1,f2,f3,hf,_,r2,_⟩:=fJ.mid off sh.ct.size;have B8:f2=[]:=by cases f2 with|nil=>rfl|cons y ys=>simp at hf
 subst B8;refine⟨_,_,_,.inl FO,⟨g,hg.quiet o.dst ?_⟩,hk⟩;refine⟨_,gm,?_⟩;unfold aeX;split;rename_i d _ _ _ _;cases an.nest.contains d with|false=>exact r2|true=>simp only[ah];obtain⟨k1,⟨n,o0,len,cap,hi,hh,J8,KS⟩,hS⟩:=DE _ _ _ rfl;refine M7 (b:=b) (n:=n) (o0:=o0) (len:=len) (cap:=cap) k1 hi hh J8 _ off r2 (λj u hu=>?_);rw[dW]at hu;split at hu;rw[bK]at hu;rw[<-KS];exact⟨hS _ _ hu,hc _ _ hu⟩;cases hu
 exact r2;cases hk;exact Yy hE ho hg hT uK hk;cases hk
theorem F2 (h:off+vs.length<=cs.length):(eX cs off vs).length=cs.length:=by simp[eX];omega
theorem F3 {E:Env}(hE:jX P E.ty){o:Oper}{x:Operand}(hd:o.dst=none)(ho:o.op=.store T p x){K:AS->aC R}{s:Nat}{bX:AS}{g':Gh}(hT:jN E.ty T=some sh)(uK:a.eval p=.pointer (some ⟨g'.β s,off,none⟩))(oB:eK C g' bX a w [(a.eval x,.val gg vs)])(kC:(nth bX.boxes s).getD none=some cs)(hlen:vs.length=sh.ct.size)(aer:vs.all AC.Ic=true)(iB:off+sh.ct.size<=cs.length)(hk:K (bX.fD s (some (eX cs off vs)))=some r):nm P C o a w K r:=by
 have kC:bX.boxes[s]?=some (some cs):=by rw[eH]at kC;cases hq:bX.boxes[s]? with|none=>rw[hq]at kC;simp at kC|some q=>rw[hq]at kC;simp at kC;rw[kC]
 obtain⟨arr,T',fr,fp,kU,sE,hr,hn,wA,hl,GQ,GS⟩:=oB.boxes s cs kC;obtain⟨fh,⟨us,gm,V0⟩,Ob,TX⟩:=oB.hands 0 _ _ rfl;have h1:=V0.nC aer;have hul:=V0.length;have hal:=hr.length;have aij:off+us.length<=arr.size:=by simp at hal;omega
 have T4:=Dc (P:=P) (w:=w) (hE T sh hT) (g'.β s) off gm (by omega) h1 kU sE aij;have fb:(execOp a.eval o).run P w=.ok .skip (uh w (g'.β s) (fy arr off us) T' fr):=by simp only[execOp,ho,uK,Instr.storeAt,Instr.sureAddr,Sem.run_bind,Sem.run_pure,Result.andThen_ok];show((storeVar T ⟨g'.β s,off,none⟩ (a.eval x)).run P w).andThen _=_;rw[T4];rfl
 have FL:=mH kU;obtain⟨f1,f2,f3,rfl,r1,r2,r3⟩:=hr.mid off us.length;have Cx:=hn;rw[aD]at Cx;have n1:=aM.1 Cx;have n2:=aM.1 n1.2.1;have Om:∀b∈fh,b≠g'.β s/\b∉f1++f2++f3:=by intro b hb;have PC:=TX b hb;refine⟨λe=>?_,λhm=>?_⟩;rw[e,GQ]at PC;cases PC;rw[hl b hm]at PC;cases PC
 have aje:Fr (λb=>eE (g'.fe b)\/b=g'.β s) w (uh w (g'.β s) (fy arr off us) T' fr):=⟨rfl,rfl,rfl,by rw[mm];exact aV _,λb _ hb=>nh (λe=>hb (.inr e))⟩
 have apQ:∀t,(if t=s then g'.β s else g'.β t)=g'.β t:=by intro t;split<;>simp_all
 have hle:(dk C g' bX w).Le ⟨g'.hw,λt=>if t=s then g'.β s else g'.β t,C.A,g'.hdr,nq bX,bX.ep,jO bX,uh w (g'.β s) (fy arr off us) T' fr⟩:=by
  refine⟨rfl,λ_ ht=>⟨ht,rfl⟩,λk b o u hA hu=>?_,aV _,λt ht=>⟨ht,apQ t⟩,λ_ b o u ho hu=>⟨ho,?_⟩⟩;have Cy:b≠g'.β s:=by rintro rfl;exact oB.MU GQ k o hA
  rw[World.cell?_of_block (a:=⟨b,o,none⟩) (nh Cy)];exact hu;have Cy:b≠g'.β s:=by rintro rfl;have KS:o<g'.hw (g'.β s):=ho;rw[GS]at KS;omega
  rw[World.cell?_of_block (a:=⟨b,o,none⟩) (nh Cy)];exact hu
 have sM:∀b,b≠g'.β s->(uh w (g'.β s) (fy arr off us) T' fr).heap[b]?=w.heap[b]?:=λb hb=>nh hb;have fJ:bR ⟨g'.hw,λt=>if t=s then g'.β s else g'.β t,C.A,g'.hdr,nq bX,bX.ep,jO bX,uh w (g'.β s) (fy arr off us) T' fr⟩ (fy arr off us).toList (eX cs off vs) (f1++fh++f3):=by
  rw[vG us arr off aij];have e2:eX cs off vs=cs.take off++vs++cs.drop (off+us.length):=by simp only[eX];rw[hul]
  rw[e2];refine((r1.mono hle (λb hb=>⟨sM b (λe=>wA (by rw[<-e];simp[hb])),rfl⟩)).append (V0.mono hle (λb hb=>⟨sM b (Om b hb).1,rfl⟩))).append (r3.mono hle (λb hb=>⟨sM b (λe=>wA (by rw[<-e];simp[hb])),rfl⟩))
 have ajp:(f1++fh++f3).Nodup:=by rw[aD];refine aM.2 ⟨n1.1,aM.2 ⟨Ob,n2.2.1,?_⟩,?_⟩;rintro b hb c hc rfl;exact(Om b hb).2 (by simp[hc]);rintro b hb c hc rfl;rcases ax.1 hc with hc|hc;exact(Om b hc).2 (by simp[hb]);exact n1.2.2 b hb b (bj _ hc) rfl
 obtain⟨g2,_,Gj⟩:=oB.Wj s (bnew:=g'.β s) (hw':=g'.hw) (.inl ⟨rfl,GQ⟩) aje (wY FL) (λj hj=>sE j (by rwa[jt]at hj)) (by rw[mm];exact FL) GS
  (λ_ _ _ _ _=>rfl) (λb o u ho hu=>hle.acb rfl b o u ho hu) fJ ajp
  (by intro hm;simp only[ax]at hm
      rcases hm with(hm|hm)|hm
      ·exact wA (by simp[hm])
      ·exact(Om _ hm).1 rfl
      ·exact wA (by simp[hm]))
  (by intro b hm;rw[mm];simp only[ax]at hm
      rcases hm with(hm|hm)|hm
      ·exact⟨(oB.gY b _ (hl b (by simp[hm]))).1,.inr (.inl (hl b (by simp[hm])))⟩
      ·exact⟨(oB.gY b _ (TX b hm)).1,.inl (by rw[TX b hm];rfl)⟩
      ·exact⟨(oB.gY b _ (hl b (by simp[hm]))).1,.inr (.inl (hl b (by simp[hm])))⟩)
 refine⟨undef,_,_,.inr ⟨rfl,fb⟩,?_,hk⟩;rw[hd];exact⟨g2,Gj⟩
theorem OT {E:Env}(hE:jX P E.ty){o:Oper}{x:Operand}(hd:o.dst=none)(ho:o.op=.store T p x)(h:oE C st a w){K:AS->aC R}{s:Nat}{bX:AS}(hT:jN E.ty T=some sh)(hp:st.rd p=.val false [.ptr s off])(sN:st.take x=(.val gg vs,bX))(kC:(nth bX.boxes s).getD none=some cs)(hlen:vs.length=sh.ct.size)(aer:vs.all AC.Ic=true)(iB:off+sh.ct.size<=cs.length)(hk:K (bX.fD s (some (eX cs off vs)))=some r):nm P C o a w K r:=by obtain⟨g,hg⟩:=h;have uK:=hg.rd p;rw[hp]at uK;have uK:=Bk uK;obtain⟨g',⟨IZ,_⟩,oB⟩:=hg.af5 x;rw[sN]at oB;exact F3 hE hd ho hT (by rw[IZ];exact uK) oB kC hlen aer iB hk
end Go.Dn
