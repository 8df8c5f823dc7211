import Derived.Test.YthllnaiaikjelaaGreatDnOps1
/- Part 2: loads and stores. -/
namespace Go.Dn
open Go.RowKit
variable {P:Program} {C:Ctx} {st:AS} {a:Act} {w:World} {R:Type} {r:R}
variable {gg:Bool} {e:CT} {fl:pW} {g:Gh} {off:Nat} {hw:Nat->Nat} {p:Operand} {c:RC} {sh:Shape} {T:TypeId} {cs vs:aq AC} {fp Zl:dy}
theorem bn.mid {vs:gO}{xs:aq AC}(h:bn c vs xs fp)(off n:Nat): ∃f1 f2 f3,fp=f1++f2++f3/\bn c (vs.take off) (xs.take off) f1/\bn c ((vs.drop off).take n) ((xs.drop off).take n) f2/\bn c (vs.drop (off+n)) (xs.drop (off+n)) f3:=by obtain⟨f1,g1,rfl,r1,r2⟩:=h.split off;obtain⟨f2,f3,rfl,r3,r4⟩:=r2.split n;rw[eo,eo]at r4;exact⟨f1,f2,f3,by simp,r1,r3,r4⟩
theorem Qy {w:World}{b:Nat}{arr:Array Value}{fr:Nat×Nat}(hb:w.heap[b]?=some (.cells arr T fr))(off n:Nat): ∀j v,((arr.toList.drop off).take n)[j]?=some v->w.cell? ⟨b,off+j,none⟩=some v:=by intro j v hv;rw[cS]at hv;split at hv;rw[bB,bK]at hv;rw[mh hb];exact hv;cases hv
theorem CJ {v:Value}{s:Nat}(h:fA c v (.val false [.ptr s off]) fp):v=.pointer (some ⟨c.β s,off,none⟩):=(dM h).1
theorem dr.agf (h:dr C g st a w [])(s:Nat)(hb:st.boxes[s]?=some (some cs))(off n:Nat)(gv:off+n<=cs.length){v:Value}(dU:∀arr T fr,w.heap[g.β s]?=some (.cells arr T fr)->Cut gg v ((arr.toList.drop off).take n)): ∃g',dr C g' (st.eh s (some (cY cs off (aR st.ep ((cs.drop off).take n))))) a w [(v,.val gg ((cs.drop off).take n))]:=by
 obtain⟨arr,T,fr,fp,iZ,qf,hr,hn,sr,hl,HQ,H8⟩:=h.boxes s cs hb;obtain⟨f1,f2,f3,rfl,r1,r2,r3⟩:=hr.mid off n;have Ae:=hn;rw[aO]at Ae;have n1:=aB.1 Ae;have n2:=aB.1 n1.2.1;have xn:s<st.boxes.length:=(aD.1 hb).1;let g':Gh:={g with dE:=λb=>if b∈f2 then some (.hand 0) else g.dE b}
 let st':AS:=st.eh s (some (cY cs off (aR st.ep ((cs.drop off).take n))));have hle:(cv C g st w).Le (cv C g' st' w):=Rc rfl (λ_ _ _ _ _ hv=>hv) (λ_ _=>rfl) (λ_ _ _ ho hu=>⟨ho,hu⟩);have WG:∀b y,g.dE b=some y->b∉f2->g'.dE b=some y:=by intro b y hb hm;show(if b∈f2 then _ else _)=_;rw[aG hm];exact hb
 have MA:∀b y,y≠ .box s->g.dE b=some y->b∉f2:=λb y hy hb hm=>hy (by have:=hl b (by simp[hm]);rw[hb]at this;simpa using this);refine⟨g',h.step (λy=>y≠ .box s) hle h.defers h.size (by show(st.eh s _).boxes.length=st.slots.length;rw[jS,bg];exact h.bsize) h.frame ?_ (λb y hy hb=>⟨WG b y hb (MA b y hy hb),rfl,rfl⟩) ?_ ?_ ?_ (.inl ⟨by simp,rfl⟩)⟩;intro b y hy;have QY:(if b∈f2 then some (iO.hand 0) else g.dE b)=some y:=hy;by_cases hm:b∈f2;exact h.ff b _ (hl b (by simp[hm]));rw[aG hm]at QY;exact h.ff b y QY;exact λi av hi=> .inl ⟨by simp,hi,rfl⟩;intro t mr ht;have TN:(st.boxes.set s (some (cY cs off (aR st.ep ((cs.drop off).take n)))))[t]?=some (some mr):=by rw[<-jS];exact ht
 by_cases qg:t=s;subst qg;rw[bj]at TN;simp only[bF,xn]at TN;simp at TN;subst TN;have JN:cY cs off (aR st.ep ((cs.drop off).take n))=cs.take off++aR st.ep ((cs.drop off).take n)++cs.drop (off+n):=by simp only[cY,aR,cn,bm,bl];rw[iE (by omega)]
 refine .inr ⟨arr,T,fr,f1++f3,iZ,qf,?_,?_,?_,?_,?_,H8⟩;have e:arr.toList=arr.toList.take off++(arr.toList.drop off).take n++arr.toList.drop (off+n):=by rw[<-eo,aO,cg,cg]
 have hm1:=r1.mono hle (λb _=>⟨rfl,rfl⟩);have Zt:=(r2.aR).mono hle (by simp);have hm3:=r3.mono hle (λb _=>⟨rfl,rfl⟩);have hm4:=(hm1.append Zt).append hm3;rw[<-e,bt]at hm4;have e3:cs.take off++aR (cv C g st w).ep ((cs.drop off).take n)++cs.drop (off+n)=cY cs off (aR st.ep ((cs.drop off).take n)):=JN.symm;rw[e3]at hm4;exact hm4;refine aB.2 ⟨n1.1,n2.2.1,?_⟩;rintro b hb c hc rfl;exact n1.2.2 b hb b (aX _ hc) rfl;intro hm;have hm':g.β t∈f1++f3:=hm;refine sr ?_;rcases ay.1 hm' with k|k;exact bh _ (bh _ k);exact aX _ k;intro b hb;refine WG b _ (hl b (by simp at hb⊢;rcases hb with hb|hb<;>simp[hb])) ?_;intro hm;rcases ay.1 hb with hb|hb;exact n1.2.2 b hb b (bh _ hm) rfl;exact n2.2.2 b hm b hb rfl;refine WG _ _ HQ (λhm=>sr ?_);have hm':g.β t∈f2:=hm;exact bh _ (aX _ hm');rw[aS (cC qg)]at TN;exact .inl ⟨by simpa using qg,TN,rfl⟩;intro k u av hk;cases k with
 |zero=>simp only[cm,aZ,Prod.mk.injEq]at hk;obtain⟨rfl,rfl⟩:=hk;refine .inr ⟨f2,⟨_,dU arr T fr iZ,r2.mono hle (λb _=>⟨rfl,rfl⟩)⟩,n2.1,λb hb=>?_⟩;show(if b∈f2 then _ else _)=_;rw[aH hb]
 |succ k=>simp at hk
theorem gy.header {v:Value}{xs:aq e.D}(r:gy c v (.sl fl e xs) fp):∃o n k,v=.slice o n k/\n=xs.length:=by
 cases fl with
 |own t=>obtain⟨⟨u,hu,h⟩,_⟩:=r;simp at hu;subst hu;rcases h with⟨⟨_,rfl⟩,rfl,_⟩|⟨b,o0,cap,arr,T,fr,fps,rfl,_⟩;exact⟨_,_,_,rfl,rfl⟩;exact⟨_,_,_,rfl,rfl⟩
 |arg _=>obtain⟨_,u,hu,h⟩:=r;simp at hu;subst hu;rcases h with⟨⟨ad,rfl⟩,rfl⟩|⟨b,o,cap,rfl,_⟩;exact⟨_,_,_,rfl,rfl⟩;exact⟨_,_,_,rfl,rfl⟩
 |loc ep pv=>exact r.2.2.1
 |nest _ _ _ _ _ _=>exact r.2.2.1
 |part _ _ _ _=>exact r.2.2.1
 |eS _ _ _=>obtain⟨_,⟨k,_,b,o0,cap,arr,T,fr,fps,rfl,_⟩,_⟩:=r;exact⟨_,_,_,rfl,rfl⟩
theorem OF {b n o0 len cap t:Nat}{rt:jR}{e:CT}{i:Int}(hi:c.iss t)(hn:i=n)(hh:c.hdr t=.slice (some ⟨b,o0,none⟩) len cap)(hl:n<len):∀(cs:aq AC)(p:Nat){vs:gO},bn c vs cs []->
 (∀j u,vs[j]?=some u->c.S b (o0+n*e.size+(p+j))/\c.w.cell? ⟨b,o0+n*e.size+(p+j),none⟩=some u)->bn c vs (S0 c.ep rt t e i p cs) []
 |[],_,vs,h,_=>by cases vs<;>exact h
 |x::cs,p,vs,h,hc=>by
  cases vs with
  |nil=>exact h.elim
  |cons v vs=>
   obtain⟨f1,f2,hf,h1,h2⟩:=h;have e1:f1=[]:=by have:=hf.symm;simp at this;exact this.1
   have e2:f2=[]:=by have:=hf.symm;simp at this;exact this.2
   subst e1;subst e2;have ja:=OF (rt:=rt) (e:=e) hi hn hh hl cs (p+1) h2 (λj u hu=>by have:=hc (j+1) u (by simpa using hu);rwa[show p+(j+1)=p+1+j by omega]at this);have hv:=hc 0 v rfl;cases x with|sl fl e' xs=>refine⟨[],[],rfl,⟨rfl,bc _,?_,λ_=>⟨hi,n,b,o0,len,cap,hn,hh,hl,?_,?_⟩⟩,ja⟩;exact gy.header h1;have:=hv.1;rwa[dF]at this;have:=hv.2;rwa[dF]at this|int _ _=>exact⟨[],[],rfl,h1,ja⟩|bool _=>exact⟨[],[],rfl,h1,ja⟩|str _=>exact⟨[],[],rfl,h1,ja⟩|jd=>exact⟨[],[],rfl,h1,ja⟩|ptr _ _=>exact⟨[],[],rfl,h1,ja⟩|Cg _ _ _ _ _=>exact⟨[],[],rfl,h1,ja⟩|fn _=>exact⟨[],[],rfl,h1,ja⟩|un=>exact⟨[],[],rfl,h1,ja⟩|bot=>exact⟨[],[],rfl,h1,ja⟩
theorem ahH {w:World}{v:Value}{xs:aq e.D}(h:dY hw w (.sl e) [v] xs Zl){n:Nat}{x:e.D}(hx:xs[n]?=some x): ∃b o0 cap arr T fr fx,v=.slice (some ⟨b,o0,none⟩) xs.length cap/\w.heap[b]?=some (.cells arr T fr)/\dY hw w e ((arr.toList.drop (o0+n*e.size)).take e.size) x fx:=by obtain⟨u,hu,h⟩:=h;simp at hu;subst hu;have Jm:n<xs.length:=(aD.1 hx).1;rcases h with⟨⟨_,rfl⟩,rfl,rfl⟩|⟨b,o0,cap,arr,T,fr,fps,rfl,hb,qf,hs,hc,hh,rfl,hl,hr⟩;simp at hx;have MZ:fps[n]?=some fps[n]:=ax (by omega);exact⟨b,o0,cap,arr,T,fr,_,rfl,hb,hr n x _ hx MZ⟩
theorem YJ {E:Env}(hE:iV P E.ty){o:Oper}(ho:o.op=.load T p)(hg:dr C g st a w []){K:AS->ar R}{x:e.D}{i:Int}(hT:iC E.ty T=some sh)(uR:gy (cv C g st w) (a.eval p) (.Cg fl e x i off) [])(hk:E7 o sh fl e i off st K=some r):mq P C o a w K r:=by
 unfold E7 at hk;split at hk;rename_i ep rt t;obtain⟨_,b,ob,hv,_,_,H5⟩:=uR;obtain⟨_,n,o0,len,cap,uQ,hrt,Jm,hob⟩:=H5 rt t rfl;split at hk;rename_i t' e' ys gI;split at hk;rename_i he;subst he;split at hk;rename_i hc;obtain⟨rfl,gv⟩:=hc;simp only at hk;cases Ej:idx ys i with
 |none=>rw[Ej]at hk;simp[aa]at hk
 |some y=>
  rw[Ej]at hk;simp only[aa]at hk;have hyn:ys[n]?=some y:=by rw[uQ]at Ej;exact Ej
  obtain⟨v0,f2,hh,eK,_,_,_⟩:=hg.Td rt gI;obtain⟨b2,o2,T6,arr,T',fr,fx,L3,iZ,H3⟩:=ahH eK hyn;have h1:=hh t' rfl;have h2:g.hdr t'=.slice (some ⟨b,o0,none⟩) len cap:=hrt;rw[h2,L3]at h1;simp only[Value.slice.injEq,aZ,Addr.mk.injEq]at h1;obtain⟨⟨rfl,rfl,_⟩,_⟩:=h1;have hln:((arr.toList.drop (o2+n*e'.size)).take e'.size).length=e'.size:=dY.length H3;have JM:iQ w (cv C g st w).S e' ((arr.toList.drop (o2+n*e'.size)).take e'.size) y:=dY.rep (λb o ho=> .inr ho) H3;have dx:bn (cv C g st w) ((arr.toList.drop (o2+n*e'.size)).take e'.size) (cellsOf e' (.loc st.ep none) y) []:=Hq (c:=cv C g st w) JM;have zS:∀j u,((((arr.toList.drop (o2+n*e'.size)).take e'.size).drop off).take sh.ct.size)[j]?=some u->w.cell? ⟨b2,ob+off+j,none⟩=some u:=by intro j u hu;rw[cS]at hu;split at hu;rw[bB,cS]at hu;split at hu;rw[bB,bK]at hu;rw[mh iZ,hob,fg];exact hu;cases hu;cases hu
  obtain⟨v,dD,dU⟩:=yW (hE T sh hT) b2 (ob+off) ((((arr.toList.drop (o2+n*e'.size)).take e'.size).drop off).take sh.ct.size) (by simp only[bm,bl]at hln⊢;omega) zS;have H6:(execOp a.eval o).run P w=.ok (.value v) w:=by simp only[execOp,ho,hv,Instr.loadAt,Instr.sureAddr,Sem.run_bind,Sem.run_pure,Result.andThen_ok];show((loadVar T ⟨b2,ob+off,none⟩).run P w).andThen _=_;rw[dD];rfl
  obtain⟨f1,f2',f3,hf,_,r2,_⟩:=dx.mid off sh.ct.size;have D0:f2'=[]:=by cases f2' with|nil=>rfl|cons y ys=>simp at hf
  subst D0;refine⟨_,_,_,.inl H6,⟨g,hg.quiet o.dst ?_⟩,hk⟩;exact⟨_,dU,r2⟩
 cases hk;cases hk;cases hk;cases hk
theorem Ch {fps:aq dy}{n:Nat}{f:dy}(h:fps[n]?=some f): fps.flatten=(fps.take n).flatten++f++(fps.drop (n+1)).flatten/\∀f',(fps.set n f').flatten=(fps.take n).flatten++f'++(fps.drop (n+1)).flatten:=by
 have hn:n<fps.length:=(aD.1 h).1;have hf:fps[n]=f:=by rw[ax hn]at h;simpa using h
 constructor
 ·conv=>lhs;rw[<-cg n fps,cc hn,hf]
  simp
 intro f';rw[List.set_eq_take_append_cons_drop,aH hn];simp
theorem aem {w:World}{v:Value}{xs:aq e.D}(h:dY hw w (.sl e) [v] xs Zl){n:Nat}{x:e.D}(hx:xs[n]?=some x): ∃b o0 cap arr T fr f1 fx f3,v=.slice (some ⟨b,o0,none⟩) xs.length cap/\w.heap[b]?=some (.cells arr T fr)/\dY hw w e ((arr.toList.drop (o0+n*e.size)).take e.size) x fx/\ Zl=b::(f1++fx++f3)/\acs hw w e v xs n (b::(f1++f3)):=by obtain⟨u,hu,h⟩:=h;simp at hu;subst hu;have Jm:n<xs.length:=(aD.1 hx).1;rcases h with⟨⟨_,rfl⟩,rfl,rfl⟩|⟨b,o0,cap,arr,T,fr,fps,rfl,hb,qf,hs,hc,hh,rfl,hl,hr⟩;simp at hx;have MZ:fps[n]?=some fps[n]:=ax (by omega);have HP:=Ch MZ;refine⟨b,o0,cap,arr,T,fr,(fps.take n).flatten,fps[n],(fps.drop (n+1)).flatten,rfl,hb,hr n x _ hx MZ,by rw[HP.1],?_⟩;refine⟨b,o0,cap,arr,T,fr,fps.set n [],rfl,hb,qf,hs,hc,hh,by rw[HP.2];simp,by simp[hl],Jm,by rw[bj];simp[hl,Jm],λi x' f hi zU hf=>?_⟩;rw[aS (cC hi)]at hf;exact hr i x' f zU hf
theorem TA {E:Env}(hE:iV P E.ty){o:Oper}(ho:o.op=.load T p)(hg:dr C g st a w []){K:AS->ar R}{x:e.D}{i:Int}(hT:iC E.ty T=some sh)(uR:gy (cv C g st w) (a.eval p) (.Cg fl e x i off) [])(hk:zn o sh fl e i off st K=some r):mq P C o a w K r:=by
 unfold zn at hk;split at hk;rename_i ep rt t;obtain⟨_,b,ob,hv,_,_,H5⟩:=uR;obtain⟨_,n,o0,len,cap,uQ,hrt,Jm,hob⟩:=H5 rt t rfl;split at hk;rename_i t' e' ys gI;split at hk;rename_i he;subst he;split at hk;rename_i hc;obtain⟨rfl,rfl,LZ⟩:=hc;simp only at hk;cases Ej:idx ys i with
 |none=>rw[Ej]at hk;simp[aa]at hk
 |some y=>
  rw[Ej]at hk;simp only[aa]at hk;have hyn:ys[n]?=some y:=by rw[uQ]at Ej;exact Ej
  obtain⟨v0,f2,Gn,B6,_,kJ⟩:=hg.aeA rt (by simp) gI;obtain⟨b2,o2,T6,arr,T',fr,f1,fx,f3,L3,iZ,H3,B5,aih⟩:=aem Gn.1 hyn;have h1:=(Gn.2 t' rfl).2;have h2:g.hdr t'=.slice (some ⟨b,o0,none⟩) len cap:=hrt;have N0:v0=g.hdr t':=h1;rw[h2,L3]at N0;simp only[Value.slice.injEq,aZ,Addr.mk.injEq]at N0;obtain⟨⟨rfl,rfl,_⟩,_⟩:=N0;have iZ:w.heap[b2]?=some (.cells arr T' fr):=iZ;have hln:((arr.toList.drop (o2+n*e'.size)).take e'.size).length=e'.size:=dY.length H3;have zS:∀j u,((arr.toList.drop (o2+n*e'.size)).take e'.size)[j]?=some u->w.cell? ⟨b2,ob+0+j,none⟩=some u:=by intro j u hu;rw[cS]at hu;split at hu;rw[bB,bK]at hu;rw[mh iZ,hob,dF];exact hu;cases hu
  obtain⟨v,dD,dU⟩:=yW (hE T sh hT) b2 (ob+0) ((arr.toList.drop (o2+n*e'.size)).take e'.size) (by rw[hln,LZ]) zS;have H6:(execOp a.eval o).run P w=.ok (.value v) w:=by simp only[execOp,ho,hv,Instr.loadAt,Instr.sureAddr,Sem.run_bind,Sem.run_pure,Result.andThen_ok];show((loadVar T ⟨b2,ob+0,none⟩).run P w).andThen _=_;rw[dD];rfl
  rw[B5]at B6;have sr:=cJ.1 B6;have hn3:=sr.2;rw[aO]at hn3;have m1:=aB.1 hn3;have m2:=aB.1 m1.2.1;obtain⟨g',ml⟩:=kJ (.sl (.eS (some t') i (some st.ep)) e' ys) (b2::(f1++f3)) fx v (.val sh.agg (cellsOf e' (.own none) y)) (λc' hle Mz Bn xg=>by refine⟨λq hq=>?_,⟨n,uQ,by rw[Mz,Bn];exact aih⟩,λt ht=>?_⟩;simp at hq;subst hq;refine⟨by rw[xg];exact bc _,λ_=>?_⟩;refine dY.rep (hw:=c'.hw) (fp:=f2) (λb o ho=> .inr ho) ?_;rw[Mz,Bn];exact Gn.1;simp at ht;subst ht;have h0:=Gn.2 t' rfl;exact⟨(hle.hdr t' h0.1).1,by rw[(hle.hdr t' h0.1).2];exact h0.2⟩) (by refine cJ.2 ⟨λhm=>sr.1 (by rcases ay.1 hm with k|k<;>simp[k]),aB.2 ⟨m1.1,m2.2.1,?_⟩⟩;rintro c hc d hd rfl;exact m1.2.2 c hc c (aX _ hd) rfl) m2.1 (λc hc=>by rw[B5];rcases bU.1 hc with rfl|hc;exact⟨by simp,λhm=>sr.1 (by simp[hm])⟩;rcases ay.1 hc with hc|hc;exact⟨by simp[hc],λhm=>m1.2.2 c hc c (bh _ hm) rfl⟩;exact⟨by simp[hc],λhm=>m2.2.2 c hm c hc rfl⟩) (λc hc=>by rw[B5];simp[hc]) ⟨_,dU,rN (c:=cv C g st w) H3⟩;exact⟨_,_,_,.inl H6,dr.EV ml o.dst,hk⟩
 cases hk;cases hk;cases hk;cases hk
theorem abf {E:Env}(hE:iV P E.ty){an:An}{o:Oper}(ho:o.op=.load T p)(h:mM C st a w){K:AS->ar R}(hk:oz E an o T p st K=some r):mq P C o a w K r:=by
 unfold oz at hk;obtain⟨g,hg⟩:=id h;split at hk;rename_i sh s off hT hp;have uR:=hg.rd p;rw[hp]at uR;have uR:=CJ uR;split at hk;rename_i cs ji;have ji:st.boxes[s]?=some (some cs):=by rw[dv]at ji;cases hq:st.boxes[s]? with|none=>rw[hq]at ji;simp at ji|some q=>rw[hq]at ji;simp at ji;rw[ji]
 split at hk;rename_i gv;obtain⟨arr,T',fr,fp,iZ,qf,hr,hn,sr,hl,HQ,H8⟩:=hg.boxes s cs ji;have hlen:=hr.length;have SA:=Qy iZ off sh.ct.size;obtain⟨v,dD,dU⟩:=yW (hE T sh hT) (g.β s) off ((arr.toList.drop off).take sh.ct.size) (by simp at hlen⊢;omega) SA;have H6:(execOp a.eval o).run P w=.ok (.value v) w:=by simp only[execOp,ho,uR,Instr.loadAt,Instr.sureAddr,Sem.run_bind,Sem.run_pure,Result.andThen_ok];show((loadVar T ⟨g.β s,off,none⟩).run P w).andThen _=_;rw[dD];rfl
 split at hk;rename_i d hd;split at hk;obtain⟨g',ml⟩:=hg.agf s ji off sh.ct.size gv (gg:=sh.agg) (v:=v) (λap8 T2 fr2 h2=>by rw[iZ]at h2;simp at h2;obtain⟨rfl,_⟩:=h2;exact dU);refine⟨_,_,_,.inl H6,?_,hk⟩;rw[hd];exact dr.EV ml (some d);refine⟨_,_,_,.inl H6,?_,hk⟩;rw[hd];refine⟨g,hg.quiet (some d) ⟨_,dU,?_⟩⟩;obtain⟨f1,f2,f3,_,_,r2,_⟩:=hr.mid off sh.ct.size;exact bn.borrow (c:=cv C g st w) (.box s) off r2;cases hk;cases hk;cases hk;rename_i sh fl e x i off hT hp;have uR:=hg.rd p;rw[hp]at uR;have uR:=dM uR;split at hk;exact TA hE ho hg hT uR hk;split at hk;rename_i oh;split at hk;rename_i gv
 have key:∃b o cs,a.eval p=.pointer (some ⟨b,o+off,none⟩)/\(∀j v,cs[j]?=some v->w.cell? ⟨b,o+j,none⟩=some v)/\bn (cv C g st w) cs (cellsOf e fl.bare x) []/\
  ∀ep rt t,fl=.loc ep (some (rt,t))->(cv C g st w).iss t/\(∃n o0 len cap:Nat,i=n/\(cv C g st w).hdr t=.slice (some ⟨b,o0,none⟩) len cap/\n<len/\o=o0+n*e.size)/\∀j v,cs[j]?=some v->(cv C g st w).S b (o+j):=by
  cases fl with
  |own t=>exact uR.elim
  |nest _ _ _ _ _ _=>exact uR.elim
  |part _ _ _ _=>exact uR.elim
  |eS _ _ _=>exact uR.elim
  |arg _=>
   obtain⟨_,b,o,hv,cs,hc,hr⟩:=uR
   exact⟨b,o,cs,hv,λj v hj=>(hc j v hj).2,G5 hr,λ_ _ _ he=>by cases he⟩
  |loc ep pv=>
   obtain⟨_,b,o,hv,h2,h3,h4⟩:=uR
   have xg:ep=st.ep:=by simpa[pW.live]using oh
   obtain⟨cs,hc,hr⟩:=h3 xg
   exact⟨b,o,cs,hv,λj v hj=>(hc j v hj).2,by simp only[pW.bare];rw[xg];exact Hq hr,λep' rt t he=>by cases he;obtain⟨k1,k2⟩:=h4 rt t rfl;exact⟨k1,k2,λj v hj=>(hc j v hj).1⟩⟩
 obtain⟨b,ob,cs,hv,hc,dx,Hk⟩:=key;have hlen:=dx.length;rw[ks]at hlen;obtain⟨v,dD,dU⟩:=yW (hE T sh hT) b (ob+off) ((cs.drop off).take sh.ct.size) (by simp;omega) (λj u hu=>by rw[cS]at hu;split at hu;rw[bB]at hu;have:=hc _ _ hu;rwa[<-fg]at this;cases hu);have H6:(execOp a.eval o).run P w=.ok (.value v) w:=by simp only[execOp,ho,hv,Instr.loadAt,Instr.sureAddr,Sem.run_bind,Sem.run_pure,Result.andThen_ok];show((loadVar T ⟨b,ob+off,none⟩).run P w).andThen _=_;rw[dD];rfl
 obtain⟨f1,f2,f3,hf,_,r2,_⟩:=dx.mid off sh.ct.size;have D0:f2=[]:=by cases f2 with|nil=>rfl|cons y ys=>simp at hf
 subst D0;refine⟨_,_,_,.inl H6,⟨g,hg.quiet o.dst ?_⟩,hk⟩;refine⟨_,dU,?_⟩;unfold aeg;split;rename_i d _ _ _ _;cases an.nest.contains d with|false=>exact r2|true=>simp only[af];obtain⟨k1,⟨n,o0,len,cap,hi,hh,Jm,MB⟩,hS⟩:=Hk _ _ _ rfl;refine OF (b:=b) (n:=n) (o0:=o0) (len:=len) (cap:=cap) k1 hi hh Jm _ off r2 (λj u hu=>?_);rw[cS]at hu;split at hu;rw[bB]at hu;rw[<-MB];exact⟨hS _ _ hu,hc _ _ hu⟩;cases hu
 exact r2;cases hk;exact YJ hE ho hg hT uR hk;cases hk
theorem Is (h:off+vs.length<=cs.length):(cY cs off vs).length=cs.length:=by simp[cY];omega
theorem Iu {E:Env}(hE:iV P E.ty){o:Oper}{x:Operand}(hd:o.dst=none)(ho:o.op=.store T p x){K:AS->ar R}{s:Nat}{st':AS}{g':Gh}(hT:iC E.ty T=some sh)(uR:a.eval p=.pointer (some ⟨g'.β s,off,none⟩))(ml:dr C g' st' a w [(a.eval x,.val gg vs)])(ji:(nth st'.boxes s).getD none=some cs)(hlen:vs.length=sh.ct.size)(ady:vs.all AC.Kq=true)(gv:off+sh.ct.size<=cs.length)(hk:K (st'.eh s (some (cY cs off vs)))=some r):mq P C o a w K r:=by
 have ji:st'.boxes[s]?=some (some cs):=by rw[dv]at ji;cases hq:st'.boxes[s]? with|none=>rw[hq]at ji;simp at ji|some q=>rw[hq]at ji;simp at ji;rw[ji]
 obtain⟨arr,T',fr,fp,iZ,qf,hr,hn,sr,hl,HQ,H8⟩:=ml.boxes s cs ji;obtain⟨fh,⟨us,dU,WH⟩,L2,UK⟩:=ml.hands 0 _ _ rfl;have h1:=WH.mD ady;have hul:=WH.length;have hal:=hr.length;have agD:off+us.length<=arr.size:=by simp at hal;omega
 have UQ:=E8 (P:=P) (w:=w) (hE T sh hT) (g'.β s) off dU (by omega) h1 iZ qf agD;have dD:(execOp a.eval o).run P w=.ok .skip (uw w (g'.β s) (ef arr off us) T' fr):=by simp only[execOp,ho,uR,Instr.storeAt,Instr.sureAddr,Sem.run_bind,Sem.run_pure,Result.andThen_ok];show((storeVar T ⟨g'.β s,off,none⟩ (a.eval x)).run P w).andThen _=_;rw[UQ];rfl
 have H0:=lE iZ;obtain⟨f1,f2,f3,rfl,r1,r2,r3⟩:=hr.mid off us.length;have Ae:=hn;rw[aO]at Ae;have n1:=aB.1 Ae;have n2:=aB.1 n1.2.1;have PX:∀b∈fh,b≠g'.β s/\b∉f1++f2++f3:=by intro b hb;have QU:=UK b hb;refine⟨λe=>?_,λhm=>?_⟩;rw[e,HQ]at QU;cases QU;rw[hl b hm]at QU;cases QU
 have ahf:Fr (λb=>cX (g'.dE b)\/b=g'.β s) w (uw w (g'.β s) (ef arr off us) T' fr):=⟨rfl,rfl,rfl,by rw[kV];exact bc _,λb _ hb=>mf (λe=>hb (.inr e))⟩
 have apV:∀t,(if t=s then g'.β s else g'.β t)=g'.β t:=by intro t;split<;>simp_all
 have hle:(cv C g' st' w).Le ⟨g'.hw,λt=>if t=s then g'.β s else g'.β t,C.A,g'.hdr,kO st',st'.ep,fY st',uw w (g'.β s) (ef arr off us) T' fr⟩:=by
  refine⟨rfl,λ_ ht=>⟨ht,rfl⟩,λk b o u hA hu=>?_,bc _,λt ht=>⟨ht,apV t⟩,λ_ b o u ho hu=>⟨ho,?_⟩⟩;have D2:b≠g'.β s:=by rintro rfl;exact ml.Lf HQ k o hA
  rw[World.cell?_of_block (a:=⟨b,o,none⟩) (mf D2)];exact hu;have D2:b≠g'.β s:=by rintro rfl;have MB:o<g'.hw (g'.β s):=ho;rw[H8]at MB;omega
  rw[World.cell?_of_block (a:=⟨b,o,none⟩) (mf D2)];exact hu
 have lg:∀b,b≠g'.β s->(uw w (g'.β s) (ef arr off us) T' fr).heap[b]?=w.heap[b]?:=λb hb=>mf hb;have dx:bn ⟨g'.hw,λt=>if t=s then g'.β s else g'.β t,C.A,g'.hdr,kO st',st'.ep,fY st',uw w (g'.β s) (ef arr off us) T' fr⟩ (ef arr off us).toList (cY cs off vs) (f1++fh++f3):=by
  rw[wx us arr off agD];have e2:cY cs off vs=cs.take off++vs++cs.drop (off+us.length):=by simp only[cY];rw[hul]
  rw[e2];refine((r1.mono hle (λb hb=>⟨lg b (λe=>sr (by rw[<-e];simp[hb])),rfl⟩)).append (WH.mono hle (λb hb=>⟨lg b (PX b hb).1,rfl⟩))).append (r3.mono hle (λb hb=>⟨lg b (λe=>sr (by rw[<-e];simp[hb])),rfl⟩))
 have ahp:(f1++fh++f3).Nodup:=by rw[aO];refine aB.2 ⟨n1.1,aB.2 ⟨L2,n2.2.1,?_⟩,?_⟩;rintro b hb c hc rfl;exact(PX b hb).2 (by simp[hc]);rintro b hb c hc rfl;rcases ay.1 hc with hc|hc;exact(PX b hc).2 (by simp[hb]);exact n1.2.2 b hb b (aX _ hc) rfl
 obtain⟨g2,_,IP⟩:=ml.W0 s (bnew:=g'.β s) (hw':=g'.hw) (.inl ⟨rfl,HQ⟩) ahf (xA H0) (λj hj=>qf j (by rwa[ik]at hj)) (by rw[kV];exact H0) H8
  (λ_ _ _ _ _=>rfl) (λb o u ho hu=>hle.abJ rfl b o u ho hu) dx ahp
  (by intro hm;simp only[ay]at hm
      rcases hm with(hm|hm)|hm
      ·exact sr (by simp[hm])
      ·exact(PX _ hm).1 rfl
      ·exact sr (by simp[hm]))
  (by intro b hm;rw[kV];simp only[ay]at hm
      rcases hm with(hm|hm)|hm
      ·exact⟨(ml.ff b _ (hl b (by simp[hm]))).1,.inr (.inl (hl b (by simp[hm])))⟩
      ·exact⟨(ml.ff b _ (UK b hm)).1,.inl (by rw[UK b hm];rfl)⟩
      ·exact⟨(ml.ff b _ (hl b (by simp[hm]))).1,.inr (.inl (hl b (by simp[hm])))⟩)
 refine⟨undef,_,_,.inr ⟨rfl,dD⟩,?_,hk⟩;rw[hd];exact⟨g2,IP⟩
theorem Qm {E:Env}(hE:iV P E.ty){o:Oper}{x:Operand}(hd:o.dst=none)(ho:o.op=.store T p x)(h:mM C st a w){K:AS->ar R}{s:Nat}{st':AS}(hT:iC E.ty T=some sh)(hp:st.rd p=.val false [.ptr s off])(sI:st.take x=(.val gg vs,st'))(ji:(nth st'.boxes s).getD none=some cs)(hlen:vs.length=sh.ct.size)(ady:vs.all AC.Kq=true)(gv:off+sh.ct.size<=cs.length)(hk:K (st'.eh s (some (cY cs off vs)))=some r):mq P C o a w K r:=by obtain⟨g,hg⟩:=h;have uR:=hg.rd p;rw[hp]at uR;have uR:=CJ uR;obtain⟨g',⟨IT,_⟩,ml⟩:=hg.ae9 x;rw[sI]at ml;exact Iu hE hd ho hT (by rw[IT];exact uR) ml ji hlen ady gv hk
end Go.Dn
