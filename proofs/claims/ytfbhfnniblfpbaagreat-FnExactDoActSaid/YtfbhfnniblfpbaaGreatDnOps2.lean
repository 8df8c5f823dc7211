import Derived.Test.YtfbhfnniblfpbaaGreatDnOps1
/- Part 2: loads and stores. -/
namespace Go.Dn
open Go.RowKit
variable {P:Program} {C:Ctx} {st:AS} {a:Act} {w:World} {R:Type} {r:R}
variable {gg:Bool} {e:CT} {fl:qI} {g:Gh} {off:Nat} {hw:Nat->Nat} {p:Operand} {c:RC} {sh:Shape} {T:TypeId} {cs vs:ar AC} {fp Z3:dV}
theorem bn.mid {vs:ic}{xs:ar AC}(h:bn c vs xs fp)(off n:Nat): ∃f1 f2 f3,fp=f1++f2++f3/\bn c (vs.take off) (xs.take off) f1/\bn c ((vs.drop off).take n) ((xs.drop off).take n) f2/\bn c (vs.drop (off+n)) (xs.drop (off+n)) f3:=by obtain⟨f1,g1,rfl,r1,r2⟩:=h.split off;obtain⟨f2,f3,rfl,r3,r4⟩:=r2.split n;rw[dY,dY]at r4;exact⟨f1,f2,f3,by simp,r1,r3,r4⟩
theorem QX {w:World}{b:Nat}{arr:Array Value}{fr:Nat×Nat}(hb:w.heap[b]?=some (.cells arr T fr))(off n:Nat): ∀j v,((arr.toList.drop off).take n)[j]?=some v->w.cell? ⟨b,off+j,none⟩=some v:=by intro j v hv;rw[cU]at hv;split at hv;rw[bJ,cg]at hv;rw[mX hb];exact hv;cases hv
theorem Dv {v:Value}{s:Nat}(h:fL c v (.val false [.ptr s off]) fp):v=.pointer (some ⟨c.β s,off,none⟩):=(dQ h).1
theorem dw.ag6 (h:dw C g st a w [])(s:Nat)(hb:st.boxes[s]?=some (some cs))(off n:Nat)(gF:off+n<=cs.length){v:Value}(ee:∀arr T fr,w.heap[g.β s]?=some (.cells arr T fr)->Cut gg v ((arr.toList.drop off).take n)): ∃g',dw C g' (st.eD s (some (da cs off (aR st.ep ((cs.drop off).take n))))) a w [(v,.val gg ((cs.drop off).take n))]:=by
 obtain⟨arr,T,fr,fp,jr,qS,hr,hn,tc,hl,Ih,Ix⟩:=h.boxes s cs hb;obtain⟨f1,f2,f3,rfl,r1,r2,r3⟩:=hr.mid off n;have BZ:=hn;rw[aN]at BZ;have n1:=aB.1 BZ;have n2:=aB.1 n1.2.1;have xW:s<st.boxes.length:=(aD.1 hb).1;let g':Gh:={g with dJ:=λb=>if b∈f2 then some (.hand 0) else g.dJ b}
 let st':AS:=st.eD s (some (da cs off (aR st.ep ((cs.drop off).take n))));have hle:(cy C g st w).Le (cy C g' st' w):=RF rfl (λ_ _ _ _ _ hv=>hv) (λ_ _=>rfl) (λ_ _ _ ho hu=>⟨ho,hu⟩);have Xc:∀b y,g.dJ b=some y->b∉f2->g'.dJ b=some y:=by intro b y hb hm;show(if b∈f2 then _ else _)=_;rw[aF hm];exact hb
 have MU:∀b y,y≠ .box s->g.dJ b=some y->b∉f2:=λb y hy hb hm=>hy (by have:=hl b (by simp[hm]);rw[hb]at this;simpa using this);refine⟨g',h.step (λy=>y≠ .box s) hle h.defers h.size (by show(st.eD s _).boxes.length=st.slots.length;rw[ks,aH];exact h.bsize) h.frame ?_ (λb y hy hb=>⟨Xc b y hb (MU b y hy hb),rfl,rfl⟩) ?_ ?_ ?_ (.inl ⟨by simp,rfl⟩)⟩;intro b y hy;have Rn:(if b∈f2 then some (jc.hand 0) else g.dJ b)=some y:=hy;by_cases hm:b∈f2;exact h.fA b _ (hl b (by simp[hm]));rw[aF hm]at Rn;exact h.fA b y Rn;exact λi av hi=> .inl ⟨by simp,hi,rfl⟩;intro t na ht;have Up:(st.boxes.set s (some (da cs off (aR st.ep ((cs.drop off).take n)))))[t]?=some (some na):=by rw[<-ks];exact ht
 by_cases qT:t=s;subst qT;rw[bk]at Up;simp only[bL,xW]at Up;simp at Up;subst Up;have J1:da cs off (aR st.ep ((cs.drop off).take n))=cs.take off++aR st.ep ((cs.drop off).take n)++cs.drop (off+n):=by simp only[da,aR,cr,bm,bf];rw[iU (by omega)]
 refine .inr ⟨arr,T,fr,f1++f3,jr,qS,?_,?_,?_,?_,?_,Ix⟩;have e:arr.toList=arr.toList.take off++(arr.toList.drop off).take n++arr.toList.drop (off+n):=by rw[<-dY,aN,cp,cp]
 have hm1:=r1.mono hle (λb _=>⟨rfl,rfl⟩);have Z9:=(r2.aR).mono hle (by simp);have hm3:=r3.mono hle (λb _=>⟨rfl,rfl⟩);have hm4:=(hm1.append Z9).append hm3;rw[<-e,bp]at hm4;have e3:cs.take off++aR (cy C g st w).ep ((cs.drop off).take n)++cs.drop (off+n)=da cs off (aR st.ep ((cs.drop off).take n)):=J1.symm;rw[e3]at hm4;exact hm4;refine aB.2 ⟨n1.1,n2.2.1,?_⟩;rintro b hb c hc rfl;exact n1.2.2 b hb b (ba _ hc) rfl;intro hm;have hm':g.β t∈f1++f3:=hm;refine tc ?_;rcases az.1 hm' with k|k;exact bg _ (bg _ k);exact ba _ k;intro b hb;refine Xc b _ (hl b (by simp at hb⊢;rcases hb with hb|hb<;>simp[hb])) ?_;intro hm;rcases az.1 hb with hb|hb;exact n1.2.2 b hb b (bg _ hm) rfl;exact n2.2.2 b hm b hb rfl;refine Xc _ _ Ih (λhm=>tc ?_);have hm':g.β t∈f2:=hm;exact bg _ (ba _ hm');rw[aO (cG qT)]at Up;exact .inl ⟨by simpa using qT,Up,rfl⟩;intro k u av hk;cases k with
 |zero=>simp only[cq,aZ,Prod.mk.injEq]at hk;obtain⟨rfl,rfl⟩:=hk;refine .inr ⟨f2,⟨_,ee arr T fr jr,r2.mono hle (λb _=>⟨rfl,rfl⟩)⟩,n2.1,λb hb=>?_⟩;show(if b∈f2 then _ else _)=_;rw[aG hb]
 |succ k=>simp at hk
theorem gI.header {v:Value}{xs:ar e.D}(r:gI c v (.sl fl e xs) fp):∃o n k,v=.slice o n k/\n=xs.length:=by
 cases fl with
 |own t=>obtain⟨⟨u,hu,h⟩,_⟩:=r;simp at hu;subst hu;rcases h with⟨⟨_,rfl⟩,rfl,_⟩|⟨b,o0,cap,arr,T,fr,fps,rfl,_⟩;exact⟨_,_,_,rfl,rfl⟩;exact⟨_,_,_,rfl,rfl⟩
 |arg _=>obtain⟨_,u,hu,h⟩:=r;simp at hu;subst hu;rcases h with⟨⟨ad,rfl⟩,rfl⟩|⟨b,o,cap,rfl,_⟩;exact⟨_,_,_,rfl,rfl⟩;exact⟨_,_,_,rfl,rfl⟩
 |loc ep pv=>exact r.2.2.1
 |nest _ _ _ _ _ _=>exact r.2.2.1
 |part _ _ _ _=>exact r.2.2.1
 |fe _ _ _=>obtain⟨_,⟨k,_,b,o0,cap,arr,T,fr,fps,rfl,_⟩,_⟩:=r;exact⟨_,_,_,rfl,rfl⟩
theorem O1 {b n o0 len cap t:Nat}{rt:kq}{e:CT}{i:Int}(hi:c.iss t)(hn:i=n)(hh:c.hdr t=.slice (some ⟨b,o0,none⟩) len cap)(hl:n<len):∀(cs:ar AC)(p:Nat){vs:ic},bn c vs cs []->
 (∀j u,vs[j]?=some u->c.S b (o0+n*e.size+(p+j))/\c.w.cell? ⟨b,o0+n*e.size+(p+j),none⟩=some u)->bn c vs (TB c.ep rt t e i p cs) []
 |[],_,vs,h,_=>by cases vs<;>exact h
 |x::cs,p,vs,h,hc=>by
  cases vs with
  |nil=>exact h.elim
  |cons v vs=>
   obtain⟨f1,f2,hf,h1,h2⟩:=h;have e1:f1=[]:=by have:=hf.symm;simp at this;exact this.1
   have e2:f2=[]:=by have:=hf.symm;simp at this;exact this.2
   subst e1;subst e2;have js:=O1 (rt:=rt) (e:=e) hi hn hh hl cs (p+1) h2 (λj u hu=>by have:=hc (j+1) u (by simpa using hu);rwa[show p+(j+1)=p+1+j by omega]at this);have hv:=hc 0 v rfl;cases x with|sl fl e' xs=>refine⟨[],[],rfl,⟨rfl,aU _,?_,λ_=>⟨hi,n,b,o0,len,cap,hn,hh,hl,?_,?_⟩⟩,js⟩;exact gI.header h1;have:=hv.1;rwa[dL]at this;have:=hv.2;rwa[dL]at this|int _ _=>exact⟨[],[],rfl,h1,js⟩|bool _=>exact⟨[],[],rfl,h1,js⟩|str _=>exact⟨[],[],rfl,h1,js⟩|jw=>exact⟨[],[],rfl,h1,js⟩|ptr _ _=>exact⟨[],[],rfl,h1,js⟩|C1 _ _ _ _ _=>exact⟨[],[],rfl,h1,js⟩|fn _=>exact⟨[],[],rfl,h1,js⟩|un=>exact⟨[],[],rfl,h1,js⟩|bot=>exact⟨[],[],rfl,h1,js⟩
theorem ain {w:World}{v:Value}{xs:ar e.D}(h:eo hw w (.sl e) [v] xs Z3){n:Nat}{x:e.D}(hx:xs[n]?=some x): ∃b o0 cap arr T fr fx,v=.slice (some ⟨b,o0,none⟩) xs.length cap/\w.heap[b]?=some (.cells arr T fr)/\eo hw w e ((arr.toList.drop (o0+n*e.size)).take e.size) x fx:=by obtain⟨u,hu,h⟩:=h;simp at hu;subst hu;have JD:n<xs.length:=(aD.1 hx).1;rcases h with⟨⟨_,rfl⟩,rfl,rfl⟩|⟨b,o0,cap,arr,T,fr,fps,rfl,hb,qS,hs,hc,hh,rfl,hl,hr⟩;simp at hx;have No:fps[n]?=some fps[n]:=al (by omega);exact⟨b,o0,cap,arr,T,fr,_,rfl,hb,hr n x _ hx No⟩
theorem Zt {E:Env}(hE:jm P E.ty){o:Oper}(ho:o.op=.load T p)(hg:dw C g st a w []){K:AS->aw R}{x:e.D}{i:Int}(hT:iT E.ty T=some sh)(vO:gI (cy C g st w) (a.eval p) (.C1 fl e x i off) [])(hk:FI o sh fl e i off st K=some r):mZ P C o a w K r:=by
 unfold FI at hk;split at hk;rename_i ep rt t;obtain⟨_,b,ob,hv,_,_,Iv⟩:=vO;obtain⟨_,n,o0,len,cap,uu,hrt,JD,hob⟩:=Iv rt t rfl;split at hk;rename_i t' e' ys gX;split at hk;rename_i he;subst he;split at hk;rename_i hc;obtain⟨rfl,gF⟩:=hc;simp only at hk;cases EP:idx ys i with
 |none=>rw[EP]at hk;simp[aa]at hk
 |some y=>
  rw[EP]at hk;simp only[aa]at hk;have hyn:ys[n]?=some y:=by rw[uu]at EP;exact EP
  obtain⟨v0,f2,hh,eR,_,_,_⟩:=hg.TQ rt gX;obtain⟨b2,o2,UJ,arr,T',fr,fx,Mg,jr,It⟩:=ain eR hyn;have h1:=hh t' rfl;have h2:g.hdr t'=.slice (some ⟨b,o0,none⟩) len cap:=hrt;rw[h2,Mg]at h1;simp only[Value.slice.injEq,aZ,Addr.mk.injEq]at h1;obtain⟨⟨rfl,rfl,_⟩,_⟩:=h1;have hln:((arr.toList.drop (o2+n*e'.size)).take e'.size).length=e'.size:=eo.length It;have J0:jd w (cy C g st w).S e' ((arr.toList.drop (o2+n*e'.size)).take e'.size) y:=eo.rep (λb o ho=> .inr ho) It;have dC:bn (cy C g st w) ((arr.toList.drop (o2+n*e'.size)).take e'.size) (cellsOf e' (.loc st.ep none) y) []:=HR (c:=cy C g st w) J0;have AI:∀j u,((((arr.toList.drop (o2+n*e'.size)).take e'.size).drop off).take sh.ct.size)[j]?=some u->w.cell? ⟨b2,ob+off+j,none⟩=some u:=by intro j u hu;rw[cU]at hu;split at hu;rw[bJ,cU]at hu;split at hu;rw[bJ,cg]at hu;rw[mX jr,hob,fE];exact hu;cases hu;cases hu
  obtain⟨v,dI,ee⟩:=zT (hE T sh hT) b2 (ob+off) ((((arr.toList.drop (o2+n*e'.size)).take e'.size).drop off).take sh.ct.size) (by simp only[bm,bf]at hln⊢;omega) AI;have Iw:(execOp a.eval o).run P w=.ok (.value v) w:=by simp only[execOp,ho,hv,Instr.loadAt,Instr.sureAddr,Sem.run_bind,Sem.run_pure,Result.andThen_ok];show((loadVar T ⟨b2,ob+off,none⟩).run P w).andThen _=_;rw[dI];rfl
  obtain⟨f1,f2',f3,hf,_,r2,_⟩:=dC.mid off sh.ct.size;have HM:f2'=[]:=by cases f2' with|nil=>rfl|cons y ys=>simp at hf
  subst HM;refine⟨_,_,_,.inl Iw,⟨g,hg.quiet o.dst ?_⟩,hk⟩;exact⟨_,ee,r2⟩
 cases hk;cases hk;cases hk;cases hk
theorem C3 {fps:ar dV}{n:Nat}{f:dV}(h:fps[n]?=some f): fps.flatten=(fps.take n).flatten++f++(fps.drop (n+1)).flatten/\∀f',(fps.set n f').flatten=(fps.take n).flatten++f'++(fps.drop (n+1)).flatten:=by
 have hn:n<fps.length:=(aD.1 h).1;have hf:fps[n]=f:=by rw[al hn]at h;simpa using h
 constructor
 ·conv=>lhs;rw[<-cp n fps,cl hn,hf]
  simp
 intro f';rw[List.set_eq_take_append_cons_drop,aG hn];simp
theorem ae7 {w:World}{v:Value}{xs:ar e.D}(h:eo hw w (.sl e) [v] xs Z3){n:Nat}{x:e.D}(hx:xs[n]?=some x): ∃b o0 cap arr T fr f1 fx f3,v=.slice (some ⟨b,o0,none⟩) xs.length cap/\w.heap[b]?=some (.cells arr T fr)/\eo hw w e ((arr.toList.drop (o0+n*e.size)).take e.size) x fx/\ Z3=b::(f1++fx++f3)/\adj hw w e v xs n (b::(f1++f3)):=by obtain⟨u,hu,h⟩:=h;simp at hu;subst hu;have JD:n<xs.length:=(aD.1 hx).1;rcases h with⟨⟨_,rfl⟩,rfl,rfl⟩|⟨b,o0,cap,arr,T,fr,fps,rfl,hb,qS,hs,hc,hh,rfl,hl,hr⟩;simp at hx;have No:fps[n]?=some fps[n]:=al (by omega);have Ig:=C3 No;refine⟨b,o0,cap,arr,T,fr,(fps.take n).flatten,fps[n],(fps.drop (n+1)).flatten,rfl,hb,hr n x _ hx No,by rw[Ig.1],?_⟩;refine⟨b,o0,cap,arr,T,fr,fps.set n [],rfl,hb,qS,hs,hc,hh,by rw[Ig.2];simp,by simp[hl],JD,by rw[bk];simp[hl,JD],λi x' f hi AJ hf=>?_⟩;rw[aO (cG hi)]at hf;exact hr i x' f AJ hf
theorem Ud {E:Env}(hE:jm P E.ty){o:Oper}(ho:o.op=.load T p)(hg:dw C g st a w []){K:AS->aw R}{x:e.D}{i:Int}(hT:iT E.ty T=some sh)(vO:gI (cy C g st w) (a.eval p) (.C1 fl e x i off) [])(hk:Ae o sh fl e i off st K=some r):mZ P C o a w K r:=by
 unfold Ae at hk;split at hk;rename_i ep rt t;obtain⟨_,b,ob,hv,_,_,Iv⟩:=vO;obtain⟨_,n,o0,len,cap,uu,hrt,JD,hob⟩:=Iv rt t rfl;split at hk;rename_i t' e' ys gX;split at hk;rename_i he;subst he;split at hk;rename_i hc;obtain⟨rfl,rfl,Mc⟩:=hc;simp only at hk;cases EP:idx ys i with
 |none=>rw[EP]at hk;simp[aa]at hk
 |some y=>
  rw[EP]at hk;simp only[aa]at hk;have hyn:ys[n]?=some y:=by rw[uu]at EP;exact EP
  obtain⟨v0,f2,GY,CQ,_,lD⟩:=hg.afl rt (by simp) gX;obtain⟨b2,o2,UJ,arr,T',fr,f1,fx,f3,Mg,jr,It,CP,aiX⟩:=ae7 GY.1 hyn;have h1:=(GY.2 t' rfl).2;have h2:g.hdr t'=.slice (some ⟨b,o0,none⟩) len cap:=hrt;have Om:v0=g.hdr t':=h1;rw[h2,Mg]at Om;simp only[Value.slice.injEq,aZ,Addr.mk.injEq]at Om;obtain⟨⟨rfl,rfl,_⟩,_⟩:=Om;have jr:w.heap[b2]?=some (.cells arr T' fr):=jr;have hln:((arr.toList.drop (o2+n*e'.size)).take e'.size).length=e'.size:=eo.length It;have AI:∀j u,((arr.toList.drop (o2+n*e'.size)).take e'.size)[j]?=some u->w.cell? ⟨b2,ob+0+j,none⟩=some u:=by intro j u hu;rw[cU]at hu;split at hu;rw[bJ,cg]at hu;rw[mX jr,hob,dL];exact hu;cases hu
  obtain⟨v,dI,ee⟩:=zT (hE T sh hT) b2 (ob+0) ((arr.toList.drop (o2+n*e'.size)).take e'.size) (by rw[hln,Mc]) AI;have Iw:(execOp a.eval o).run P w=.ok (.value v) w:=by simp only[execOp,ho,hv,Instr.loadAt,Instr.sureAddr,Sem.run_bind,Sem.run_pure,Result.andThen_ok];show((loadVar T ⟨b2,ob+0,none⟩).run P w).andThen _=_;rw[dI];rfl
  rw[CP]at CQ;have tc:=cP.1 CQ;have hn3:=tc.2;rw[aN]at hn3;have m1:=aB.1 hn3;have m2:=aB.1 m1.2.1;obtain⟨g',mY⟩:=lD (.sl (.fe (some t') i (some st.ep)) e' ys) (b2::(f1++f3)) fx v (.val sh.agg (cellsOf e' (.own none) y)) (λc' hle MT BU xQ=>by refine⟨λq hq=>?_,⟨n,uu,by rw[MT,BU];exact aiX⟩,λt ht=>?_⟩;simp at hq;subst hq;refine⟨by rw[xQ];exact aU _,λ_=>?_⟩;refine eo.rep (hw:=c'.hw) (fp:=f2) (λb o ho=> .inr ho) ?_;rw[MT,BU];exact GY.1;simp at ht;subst ht;have h0:=GY.2 t' rfl;exact⟨(hle.hdr t' h0.1).1,by rw[(hle.hdr t' h0.1).2];exact h0.2⟩) (by refine cP.2 ⟨λhm=>tc.1 (by rcases az.1 hm with k|k<;>simp[k]),aB.2 ⟨m1.1,m2.2.1,?_⟩⟩;rintro c hc d hd rfl;exact m1.2.2 c hc c (ba _ hd) rfl) m2.1 (λc hc=>by rw[CP];rcases cv.1 hc with rfl|hc;exact⟨by simp,λhm=>tc.1 (by simp[hm])⟩;rcases az.1 hc with hc|hc;exact⟨by simp[hc],λhm=>m1.2.2 c hc c (bg _ hm) rfl⟩;exact⟨by simp[hc],λhm=>m2.2.2 c hm c hc rfl⟩) (λc hc=>by rw[CP];simp[hc]) ⟨_,ee,sA (c:=cy C g st w) It⟩;exact⟨_,_,_,.inl Iw,dw.Fs mY o.dst,hk⟩
 cases hk;cases hk;cases hk;cases hk
theorem abW {E:Env}(hE:jm P E.ty){an:An}{o:Oper}(ho:o.op=.load T p)(h:nt C st a w){K:AS->aw R}(hk:px E an o T p st K=some r):mZ P C o a w K r:=by
 unfold px at hk;obtain⟨g,hg⟩:=id h;split at hk;rename_i sh s off hT hp;have vO:=hg.rd p;rw[hp]at vO;have vO:=Dv vO;split at hk;rename_i cs jA;have jA:st.boxes[s]?=some (some cs):=by rw[dA]at jA;cases hq:st.boxes[s]? with|none=>rw[hq]at jA;simp at jA|some q=>rw[hq]at jA;simp at jA;rw[jA]
 split at hk;rename_i gF;obtain⟨arr,T',fr,fp,jr,qS,hr,hn,tc,hl,Ih,Ix⟩:=hg.boxes s cs jA;have hlen:=hr.length;have S5:=QX jr off sh.ct.size;obtain⟨v,dI,ee⟩:=zT (hE T sh hT) (g.β s) off ((arr.toList.drop off).take sh.ct.size) (by simp at hlen⊢;omega) S5;have Iw:(execOp a.eval o).run P w=.ok (.value v) w:=by simp only[execOp,ho,vO,Instr.loadAt,Instr.sureAddr,Sem.run_bind,Sem.run_pure,Result.andThen_ok];show((loadVar T ⟨g.β s,off,none⟩).run P w).andThen _=_;rw[dI];rfl
 split at hk;rename_i d hd;split at hk;obtain⟨g',mY⟩:=hg.ag6 s jA off sh.ct.size gF (gg:=sh.agg) (v:=v) (λaqG T2 fr2 h2=>by rw[jr]at h2;simp at h2;obtain⟨rfl,_⟩:=h2;exact ee);refine⟨_,_,_,.inl Iw,?_,hk⟩;rw[hd];exact dw.Fs mY (some d);refine⟨_,_,_,.inl Iw,?_,hk⟩;rw[hd];refine⟨g,hg.quiet (some d) ⟨_,ee,?_⟩⟩;obtain⟨f1,f2,f3,_,_,r2,_⟩:=hr.mid off sh.ct.size;exact bn.borrow (c:=cy C g st w) (.box s) off r2;cases hk;cases hk;cases hk;rename_i sh fl e x i off hT hp;have vO:=hg.rd p;rw[hp]at vO;have vO:=dQ vO;split at hk;exact Ud hE ho hg hT vO hk;split at hk;rename_i pg;split at hk;rename_i gF
 have key:∃b o cs,a.eval p=.pointer (some ⟨b,o+off,none⟩)/\(∀j v,cs[j]?=some v->w.cell? ⟨b,o+j,none⟩=some v)/\bn (cy C g st w) cs (cellsOf e fl.bare x) []/\
  ∀ep rt t,fl=.loc ep (some (rt,t))->(cy C g st w).iss t/\(∃n o0 len cap:Nat,i=n/\(cy C g st w).hdr t=.slice (some ⟨b,o0,none⟩) len cap/\n<len/\o=o0+n*e.size)/\∀j v,cs[j]?=some v->(cy C g st w).S b (o+j):=by
  cases fl with
  |own t=>exact vO.elim
  |nest _ _ _ _ _ _=>exact vO.elim
  |part _ _ _ _=>exact vO.elim
  |fe _ _ _=>exact vO.elim
  |arg _=>
   obtain⟨_,b,o,hv,cs,hc,hr⟩:=vO
   exact⟨b,o,cs,hv,λj v hj=>(hc j v hj).2,Hx hr,λ_ _ _ he=>by cases he⟩
  |loc ep pv=>
   obtain⟨_,b,o,hv,h2,h3,h4⟩:=vO
   have xQ:ep=st.ep:=by simpa[qI.live]using pg
   obtain⟨cs,hc,hr⟩:=h3 xQ
   exact⟨b,o,cs,hv,λj v hj=>(hc j v hj).2,by simp only[qI.bare];rw[xQ];exact HR hr,λep' rt t he=>by cases he;obtain⟨k1,k2⟩:=h4 rt t rfl;exact⟨k1,k2,λj v hj=>(hc j v hj).1⟩⟩
 obtain⟨b,ob,cs,hv,hc,dC,CR⟩:=key;have hlen:=dC.length;rw[kX]at hlen;obtain⟨v,dI,ee⟩:=zT (hE T sh hT) b (ob+off) ((cs.drop off).take sh.ct.size) (by simp;omega) (λj u hu=>by rw[cU]at hu;split at hu;rw[bJ]at hu;have:=hc _ _ hu;rwa[<-fE]at this;cases hu);have Iw:(execOp a.eval o).run P w=.ok (.value v) w:=by simp only[execOp,ho,hv,Instr.loadAt,Instr.sureAddr,Sem.run_bind,Sem.run_pure,Result.andThen_ok];show((loadVar T ⟨b,ob+off,none⟩).run P w).andThen _=_;rw[dI];rfl
 obtain⟨f1,f2,f3,hf,_,r2,_⟩:=dC.mid off sh.ct.size;have HM:f2=[]:=by cases f2 with|nil=>rfl|cons y ys=>simp at hf
 subst HM;refine⟨_,_,_,.inl Iw,⟨g,hg.quiet o.dst ?_⟩,hk⟩;refine⟨_,ee,?_⟩;unfold ae0;split;rename_i d _ _ _ _;cases an.nest.contains d with|false=>exact r2|true=>simp only[af];obtain⟨k1,⟨n,o0,len,cap,hi,hh,JD,MV⟩,hS⟩:=CR _ _ _ rfl;refine O1 (b:=b) (n:=n) (o0:=o0) (len:=len) (cap:=cap) k1 hi hh JD _ off r2 (λj u hu=>?_);rw[cU]at hu;split at hu;rw[bJ]at hu;rw[<-MV];exact⟨hS _ _ hu,hc _ _ hu⟩;cases hu
 exact r2;cases hk;exact Zt hE ho hg hT vO hk;cases hk
theorem IQ (h:off+vs.length<=cs.length):(da cs off vs).length=cs.length:=by simp[da];omega
theorem IS {E:Env}(hE:jm P E.ty){o:Oper}{x:Operand}(hd:o.dst=none)(ho:o.op=.store T p x){K:AS->aw R}{s:Nat}{st':AS}{g':Gh}(hT:iT E.ty T=some sh)(vO:a.eval p=.pointer (some ⟨g'.β s,off,none⟩))(mY:dw C g' st' a w [(a.eval x,.val gg vs)])(jA:(nth st'.boxes s).getD none=some cs)(hlen:vs.length=sh.ct.size)(aen:vs.all AC.KC=true)(gF:off+sh.ct.size<=cs.length)(hk:K (st'.eD s (some (da cs off vs)))=some r):mZ P C o a w K r:=by
 have jA:st'.boxes[s]?=some (some cs):=by rw[dA]at jA;cases hq:st'.boxes[s]? with|none=>rw[hq]at jA;simp at jA|some q=>rw[hq]at jA;simp at jA;rw[jA]
 obtain⟨arr,T',fr,fp,jr,qS,hr,hn,tc,hl,Ih,Ix⟩:=mY.boxes s cs jA;obtain⟨fh,⟨us,ee,Xe⟩,Mf,Vg⟩:=mY.hands 0 _ _ rfl;have h1:=Xe.nm aen;have hul:=Xe.length;have hal:=hr.length;have ahr:off+us.length<=arr.size:=by simp at hal;omega
 have Vn:=FJ (P:=P) (w:=w) (hE T sh hT) (g'.β s) off ee (by omega) h1 jr qS ahr;have dI:(execOp a.eval o).run P w=.ok .skip (vo w (g'.β s) (eC arr off us) T' fr):=by simp only[execOp,ho,vO,Instr.storeAt,Instr.sureAddr,Sem.run_bind,Sem.run_pure,Result.andThen_ok];show((storeVar T ⟨g'.β s,off,none⟩ (a.eval x)).run P w).andThen _=_;rw[Vn];rfl
 have Ir:=mn jr;obtain⟨f1,f2,f3,rfl,r1,r2,r3⟩:=hr.mid off us.length;have BZ:=hn;rw[aN]at BZ;have n1:=aB.1 BZ;have n2:=aB.1 n1.2.1;have Ql:∀b∈fh,b≠g'.β s/\b∉f1++f2++f3:=by intro b hb;have Rj:=Vg b hb;refine⟨λe=>?_,λhm=>?_⟩;rw[e,Ih]at Rj;cases Rj;rw[hl b hm]at Rj;cases Rj
 have ahV:Fr (λb=>cX (g'.dJ b)\/b=g'.β s) w (vo w (g'.β s) (eC arr off us) T' fr):=⟨rfl,rfl,rfl,by rw[lS];exact aU _,λb _ hb=>mW (λe=>hb (.inr e))⟩
 have aqs:∀t,(if t=s then g'.β s else g'.β t)=g'.β t:=by intro t;split<;>simp_all
 have hle:(cy C g' st' w).Le ⟨g'.hw,λt=>if t=s then g'.β s else g'.β t,C.A,g'.hdr,lI st',st'.ep,gx st',vo w (g'.β s) (eC arr off us) T' fr⟩:=by
  refine⟨rfl,λ_ ht=>⟨ht,rfl⟩,λk b o u hA hu=>?_,aU _,λt ht=>⟨ht,aqs t⟩,λ_ b o u ho hu=>⟨ho,?_⟩⟩;have ET:b≠g'.β s:=by rintro rfl;exact mY.Lr Ih k o hA
  rw[World.cell?_of_block (a:=⟨b,o,none⟩) (mW ET)];exact hu;have ET:b≠g'.β s:=by rintro rfl;have MV:o<g'.hw (g'.β s):=ho;rw[Ix]at MV;omega
  rw[World.cell?_of_block (a:=⟨b,o,none⟩) (mW ET)];exact hu
 have mc:∀b,b≠g'.β s->(vo w (g'.β s) (eC arr off us) T' fr).heap[b]?=w.heap[b]?:=λb hb=>mW hb;have dC:bn ⟨g'.hw,λt=>if t=s then g'.β s else g'.β t,C.A,g'.hdr,lI st',st'.ep,gx st',vo w (g'.β s) (eC arr off us) T' fr⟩ (eC arr off us).toList (da cs off vs) (f1++fh++f3):=by
  rw[xh us arr off ahr];have e2:da cs off vs=cs.take off++vs++cs.drop (off+us.length):=by simp only[da];rw[hul]
  rw[e2];refine((r1.mono hle (λb hb=>⟨mc b (λe=>tc (by rw[<-e];simp[hb])),rfl⟩)).append (Xe.mono hle (λb hb=>⟨mc b (Ql b hb).1,rfl⟩))).append (r3.mono hle (λb hb=>⟨mc b (λe=>tc (by rw[<-e];simp[hb])),rfl⟩))
 have ah5:(f1++fh++f3).Nodup:=by rw[aN];refine aB.2 ⟨n1.1,aB.2 ⟨Mf,n2.2.1,?_⟩,?_⟩;rintro b hb c hc rfl;exact(Ql b hb).2 (by simp[hc]);rintro b hb c hc rfl;rcases az.1 hc with hc|hc;exact(Ql b hc).2 (by simp[hb]);exact n1.2.2 b hb b (ba _ hc) rfl
 obtain⟨g2,_,Jf⟩:=mY.Xw s (bnew:=g'.β s) (hw':=g'.hw) (.inl ⟨rfl,Ih⟩) ahV (yr Ir) (λj hj=>qS j (by rwa[iC]at hj)) (by rw[lS];exact Ir) Ix
  (λ_ _ _ _ _=>rfl) (λb o u ho hu=>hle.acw rfl b o u ho hu) dC ah5
  (by intro hm;simp only[az]at hm
      rcases hm with(hm|hm)|hm
      ·exact tc (by simp[hm])
      ·exact(Ql _ hm).1 rfl
      ·exact tc (by simp[hm]))
  (by intro b hm;rw[lS];simp only[az]at hm
      rcases hm with(hm|hm)|hm
      ·exact⟨(mY.fA b _ (hl b (by simp[hm]))).1,.inr (.inl (hl b (by simp[hm])))⟩
      ·exact⟨(mY.fA b _ (Vg b hm)).1,.inl (by rw[Vg b hm];rfl)⟩
      ·exact⟨(mY.fA b _ (hl b (by simp[hm]))).1,.inr (.inl (hl b (by simp[hm])))⟩)
 refine⟨undef,_,_,.inr ⟨rfl,dI⟩,?_,hk⟩;rw[hd];exact⟨g2,Jf⟩
theorem QN {E:Env}(hE:jm P E.ty){o:Oper}{x:Operand}(hd:o.dst=none)(ho:o.op=.store T p x)(h:nt C st a w){K:AS->aw R}{s:Nat}{st':AS}(hT:iT E.ty T=some sh)(hp:st.rd p=.val false [.ptr s off])(tD:st.take x=(.val gg vs,st'))(jA:(nth st'.boxes s).getD none=some cs)(hlen:vs.length=sh.ct.size)(aen:vs.all AC.KC=true)(gF:off+sh.ct.size<=cs.length)(hk:K (st'.eD s (some (da cs off vs)))=some r):mZ P C o a w K r:=by obtain⟨g,hg⟩:=h;have vO:=hg.rd p;rw[hp]at vO;have vO:=Dv vO;obtain⟨g',⟨Ji,_⟩,mY⟩:=hg.afN x;rw[tD]at mY;exact IS hE hd ho hT (by rw[Ji];exact vO) mY jA hlen aen gF hk
end Go.Dn
