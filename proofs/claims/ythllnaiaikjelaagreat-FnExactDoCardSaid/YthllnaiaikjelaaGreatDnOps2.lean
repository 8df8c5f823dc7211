import Derived.Test.YthllnaiaikjelaaGreatDnOps1
/- Part 2: loads and stores. -/
namespace Go.Dn
open Go.RowKit
variable {P:Program} {C:Ctx} {st:AS} {a:Act} {w:World} {R:Type} {r:R}
variable {gg:Bool} {e:CT} {fl:uv} {g:Gh} {off:Nat} {hw:Nat->Nat} {p:Operand} {c:RC} {sh:Shape} {T:TypeId} {cs vs:ar AC} {fp fp0:ec}
theorem bD.mid {vs:iU}{xs:ar AC}(h:bD c vs xs fp)(off n:Nat): ∃f1 f2 f3,fp=f1++f2++f3/\bD c (vs.take off) (xs.take off) f1/\bD c ((vs.drop off).take n) ((xs.drop off).take n) f2/\bD c (vs.drop (off+n)) (xs.drop (off+n)) f3:=by obtain⟨f1,g1,rfl,r1,r2⟩:=h.split off;obtain⟨f2,f3,rfl,r3,r4⟩:=r2.split n;rw[eL,eL]at r4;exact⟨f1,f2,f3,by simp,r1,r3,r4⟩
theorem Xz {w:World}{b:Nat}{arr:Array Value}{fr:Nat×Nat}(hb:w.heap[b]?=some (.cells arr T fr))(off n:Nat): ∀j v,((arr.toList.drop off).take n)[j]?=some v->w.cell? ⟨b,off+j,none⟩=some v:=by intro j v hv;rw[dk]at hv;split at hv;rw[bQ,cm]at hv;rw[oU hb];exact hv;cases hv
theorem H2 {v:Value}{s:Nat}(h:gi c v (.val false [.ptr s off]) fp):v=.pointer (some ⟨c.β s,off,none⟩):=(eG h).1
theorem dM.ao5 (h:dM C g st a w [])(s:Nat)(hb:st.boxes[s]?=some (some cs))(off n:Nat)(iy:off+n<=cs.length){v:Value}(eM:∀arr T fr,w.heap[g.β s]?=some (.cells arr T fr)->Cut gg v ((arr.toList.drop off).take n)): ∃g',dM C g' (st.eY s (some (du cs off (bc st.ep ((cs.drop off).take n))))) a w [(v,.val gg ((cs.drop off).take n))]:=by
 obtain⟨arr,T,fr,fp,kG,uG,hr,hn,xe,hl,ND,NU⟩:=h.boxes s cs hb;obtain⟨f1,f2,f3,rfl,r1,r2,r3⟩:=hr.mid off n;have Ff:=hn;rw[aW]at Ff;have n1:=aG.1 Ff;have n2:=aG.1 n1.2.1;have Cs:s<st.boxes.length:=(aJ.1 hb).1;let g':Gh:={g with eo:=λb=>if b∈f2 then some (.hand 0) else g.eo b}
 let st':AS:=st.eY s (some (du cs off (bc st.ep ((cs.drop off).take n))));have hle:(cO C g st w).Le (cO C g' st' w):=Yn rfl (λ_ _ _ _ _ hv=>hv) (λ_ _=>rfl) (λ_ _ _ ho hu=>⟨ho,hu⟩);have hlk:∀b y,g.eo b=some y->b∉f2->g'.eo b=some y:=by intro b y hb hm;show(if b∈f2 then _ else _)=_;rw[aK hm];exact hb
 have Tk:∀b y,y≠ .box s->g.eo b=some y->b∉f2:=λb y hy hb hm=>hy (by have:=hl b (by simp[hm]);rw[hb]at this;simpa using this);refine⟨g',h.step (λy=>y≠ .box s) hle h.defers h.size (by show(st.eY s _).boxes.length=st.slots.length;rw[lU,aL];exact h.bsize) h.frame ?_ (λb y hy hb=>⟨hlk b y hb (Tk b y hy hb),rfl,rfl⟩) ?_ ?_ ?_ (.inl ⟨by simp,rfl⟩)⟩;intro b y hy;have X5:(if b∈f2 then some (kb.hand 0) else g.eo b)=some y:=hy;by_cases hm:b∈f2;exact h.fV b _ (hl b (by simp[hm]));rw[aK hm]at X5;exact h.fV b y X5;exact λi av hi=> .inl ⟨by simp,hi,rfl⟩;intro t oY ht;have ht':(st.boxes.set s (some (du cs off (bc st.ep ((cs.drop off).take n)))))[t]?=some (some oY):=by rw[<-lU];exact ht
 by_cases uH:t=s;subst uH;rw[bt]at ht';simp only[cd,Cs]at ht';simp at ht';subst ht';have PO:du cs off (bc st.ep ((cs.drop off).take n))=cs.take off++bc st.ep ((cs.drop off).take n)++cs.drop (off+n):=by simp only[du,bc,bW,bm,bl];rw[gX (by omega)]
 refine .inr ⟨arr,T,fr,f1++f3,kG,uG,?_,?_,?_,?_,?_,NU⟩;have e:arr.toList=arr.toList.take off++(arr.toList.drop off).take n++arr.toList.drop (off+n):=by rw[<-eL,aW,cK,cK]
 have hm1:=r1.mono hle (λb _=>⟨rfl,rfl⟩);have hm2:=(r2.bc).mono hle (by simp);have hm3:=r3.mono hle (λb _=>⟨rfl,rfl⟩);have hm4:=(hm1.append hm2).append hm3;rw[<-e,bC]at hm4;have e3:cs.take off++bc (cO C g st w).ep ((cs.drop off).take n)++cs.drop (off+n)=du cs off (bc st.ep ((cs.drop off).take n)):=PO.symm;rw[e3]at hm4;exact hm4;refine aG.2 ⟨n1.1,n2.2.1,?_⟩;rintro b hb c hc rfl;exact n1.2.2 b hb b (bh _ hc) rfl;intro hm;have hm':g.β t∈f1++f3:=hm;refine xe ?_;rcases aA.1 hm' with k|k;exact br _ (br _ k);exact bh _ k;intro b hb;refine hlk b _ (hl b (by simp at hb⊢;rcases hb with hb|hb<;>simp[hb])) ?_;intro hm;rcases aA.1 hb with hb|hb;exact n1.2.2 b hb b (br _ hm) rfl;exact n2.2.2 b hm b hb rfl;refine hlk _ _ ND (λhm=>xe ?_);have hm':g.β t∈f2:=hm;exact br _ (bh _ hm');rw[aZ (cW uH)]at ht';exact .inl ⟨by simpa using uH,ht',rfl⟩;intro k u av hk;cases k with
 |zero=>simp only[cL,bf,Prod.mk.injEq]at hk;obtain⟨rfl,rfl⟩:=hk;refine .inr ⟨f2,⟨_,eM arr T fr kG,r2.mono hle (λb _=>⟨rfl,rfl⟩)⟩,n2.1,λb hb=>?_⟩;show(if b∈f2 then _ else _)=_;rw[aM hb]
 |succ k=>simp at hk
theorem iA.header {v:Value}{xs:ar e.D}(r:iA c v (.sl fl e xs) fp):∃o n k,v=.slice o n k/\n=xs.length:=by
 cases fl with
 |own t=>obtain⟨⟨u,hu,h⟩,_⟩:=r;simp at hu;subst hu;rcases h with⟨⟨_,rfl⟩,rfl,_⟩|⟨b,o0,cap,arr,T,fr,fps,rfl,_⟩;exact⟨_,_,_,rfl,rfl⟩;exact⟨_,_,_,rfl,rfl⟩
 |arg _=>obtain⟨_,u,hu,h⟩:=r;simp at hu;subst hu;rcases h with⟨⟨ad,rfl⟩,rfl⟩|⟨b,o,cap,rfl,_⟩;exact⟨_,_,_,rfl,rfl⟩;exact⟨_,_,_,rfl,rfl⟩
 |loc ep pv=>exact r.2.2.1
 |nest _ _ _ _ _ _=>exact r.2.2.1
 |part _ _ _ _=>exact r.2.2.1
 |fK _ _ _=>obtain⟨_,⟨k,_,b,o0,cap,arr,T,fr,fps,rfl,_⟩,_⟩:=r;exact⟨_,_,_,rfl,rfl⟩
theorem VA {b n o0 len cap t:Nat}{rt:lS}{e:CT}{i:Int}(hi:c.iss t)(hn:i=n)(hh:c.hdr t=.slice (some ⟨b,o0,none⟩) len cap)(hl:n<len):∀(cs:ar AC)(p:Nat){vs:iU},bD c vs cs []->
 (∀j u,vs[j]?=some u->c.S b (o0+n*e.size+(p+j))/\c.w.cell? ⟨b,o0+n*e.size+(p+j),none⟩=some u)->bD c vs (aam c.ep rt t e i p cs) []
 |[],_,vs,h,_=>by cases vs<;>exact h
 |x::cs,p,vs,h,hc=>by
  cases vs with
  |nil=>exact h.elim
  |cons v vs=>
   obtain⟨f1,f2,hf,h1,h2⟩:=h;have e1:f1=[]:=by have:=hf.symm;simp at this;exact this.1
   have e2:f2=[]:=by have:=hf.symm;simp at this;exact this.2
   subst e1;subst e2;have kH:=VA (rt:=rt) (e:=e) hi hn hh hl cs (p+1) h2 (λj u hu=>by have:=hc (j+1) u (by simpa using hu);rwa[show p+(j+1)=p+1+j by omega]at this);have hv:=hc 0 v rfl;cases x with|sl fl e' xs=>refine⟨[],[],rfl,⟨rfl,ba _,?_,λ_=>⟨hi,n,b,o0,len,cap,hn,hh,hl,?_,?_⟩⟩,kH⟩;exact iA.header h1;have:=hv.1;rwa[dW]at this;have:=hv.2;rwa[dW]at this|int _ _=>exact⟨[],[],rfl,h1,kH⟩|bool _=>exact⟨[],[],rfl,h1,kH⟩|str _=>exact⟨[],[],rfl,h1,kH⟩|kL=>exact⟨[],[],rfl,h1,kH⟩|ptr _ _=>exact⟨[],[],rfl,h1,kH⟩|Hy _ _ _ _ _=>exact⟨[],[],rfl,h1,kH⟩|fn _=>exact⟨[],[],rfl,h1,kH⟩|un=>exact⟨[],[],rfl,h1,kH⟩|bot=>exact⟨[],[],rfl,h1,kH⟩
theorem aqu {w:World}{v:Value}{xs:ar e.D}(h:eS hw w (.sl e) [v] xs fp0){n:Nat}{x:e.D}(hx:xs[n]?=some x): ∃b o0 cap arr T fr fx,v=.slice (some ⟨b,o0,none⟩) xs.length cap/\w.heap[b]?=some (.cells arr T fr)/\eS hw w e ((arr.toList.drop (o0+n*e.size)).take e.size) x fx:=by obtain⟨u,hu,h⟩:=h;simp at hu;subst hu;have Pf:n<xs.length:=(aJ.1 hx).1;rcases h with⟨⟨_,rfl⟩,rfl,rfl⟩|⟨b,o0,cap,arr,T,fr,fps,rfl,hb,uG,hs,hc,hh,rfl,hl,hr⟩;simp at hx;have TN:fps[n]?=some fps[n]:=al (by omega);exact⟨b,o0,cap,arr,T,fr,_,rfl,hb,hr n x _ hx TN⟩
theorem agB {E:Env}(hE:kA P E.ty){o:Oper}(ho:o.op=.load T p)(hg:dM C g st a w []){K:AS->au R}{x:e.D}{i:Int}(hT:jR E.ty T=some sh)(zQ:iA (cO C g st w) (a.eval p) (.Hy fl e x i off) [])(hk:Ky o sh fl e i off st K=some r):oX P C o a w K r:=by
 unfold Ky at hk;split at hk;rename_i ep rt t;obtain⟨_,b,ob,hv,_,_,NS⟩:=zQ;obtain⟨_,n,o0,len,cap,vC,hrt,Pf,hob⟩:=NS rt t rfl;split at hk;rename_i t' e' ys iM;split at hk;rename_i he;subst he;split at hk;rename_i hc;obtain⟨rfl,iy⟩:=hc;simp only at hk;cases JI:idx ys i with
 |none=>rw[JI]at hk;simp[aa]at hk
 |some y=>
  rw[JI]at hk;simp only[aa]at hk;have hyn:ys[n]?=some y:=by rw[vC]at JI;exact JI
  obtain⟨v0,f2,hh,fA,_,_,_⟩:=hg.aaA rt iM;obtain⟨b2,o2,abk,arr,T',fr,fx,Sz,kG,NQ⟩:=aqu fA hyn;have h1:=hh t' rfl;have h2:g.hdr t'=.slice (some ⟨b,o0,none⟩) len cap:=hrt;rw[h2,Sz]at h1;simp only[Value.slice.injEq,bf,Addr.mk.injEq]at h1;obtain⟨⟨rfl,rfl,_⟩,_⟩:=h1;have hln:((arr.toList.drop (o2+n*e'.size)).take e'.size).length=e'.size:=eS.length NQ;have PN:kg w (cO C g st w).S e' ((arr.toList.drop (o2+n*e'.size)).take e'.size) y:=eS.rep (λb o ho=> .inr ho) NQ;have dY:bD (cO C g st w) ((arr.toList.drop (o2+n*e'.size)).take e'.size) (cellsOf e' (.loc st.ep none) y) []:=Nb (c:=cO C g st w) PN;have E1:∀j u,((((arr.toList.drop (o2+n*e'.size)).take e'.size).drop off).take sh.ct.size)[j]?=some u->w.cell? ⟨b2,ob+off+j,none⟩=some u:=by intro j u hu;rw[dk]at hu;split at hu;rw[bQ,dk]at hu;split at hu;rw[bQ,cm]at hu;rw[oU kG,hob,fY];exact hu;cases hu;cases hu
  obtain⟨v,ej,eM⟩:=Ef (hE T sh hT) b2 (ob+off) ((((arr.toList.drop (o2+n*e'.size)).take e'.size).drop off).take sh.ct.size) (by simp only[bm,bl]at hln⊢;omega) E1;have NT:(execOp a.eval o).run P w=.ok (.value v) w:=by simp only[execOp,ho,hv,Instr.loadAt,Instr.sureAddr,Sem.run_bind,Sem.run_pure,Result.andThen_ok];show((loadVar T ⟨b2,ob+off,none⟩).run P w).andThen _=_;rw[ej];rfl
  obtain⟨f1,f2',f3,hf,_,r2,_⟩:=dY.mid off sh.ct.size;have Jn:f2'=[]:=by cases f2' with|nil=>rfl|cons y ys=>simp at hf
  subst Jn;refine⟨_,_,_,.inl NT,⟨g,hg.quiet o.dst ?_⟩,hk⟩;exact⟨_,eM,r2⟩
 cases hk;cases hk;cases hk;cases hk
theorem Hz {fps:ar ec}{n:Nat}{f:ec}(h:fps[n]?=some f): fps.flatten=(fps.take n).flatten++f++(fps.drop (n+1)).flatten/\∀f',(fps.set n f').flatten=(fps.take n).flatten++f'++(fps.drop (n+1)).flatten:=by
 have hn:n<fps.length:=(aJ.1 h).1;have hf:fps[n]=f:=by rw[al hn]at h;simpa using h
 constructor
 ·conv=>lhs;rw[<-cK n fps,cf hn,hf]
  simp
 intro f';rw[List.set_eq_take_append_cons_drop,aM hn];simp
theorem amQ {w:World}{v:Value}{xs:ar e.D}(h:eS hw w (.sl e) [v] xs fp0){n:Nat}{x:e.D}(hx:xs[n]?=some x): ∃b o0 cap arr T fr f1 fx f3,v=.slice (some ⟨b,o0,none⟩) xs.length cap/\w.heap[b]?=some (.cells arr T fr)/\eS hw w e ((arr.toList.drop (o0+n*e.size)).take e.size) x fx/\ fp0=b::(f1++fx++f3)/\akO hw w e v xs n (b::(f1++f3)):=by obtain⟨u,hu,h⟩:=h;simp at hu;subst hu;have Pf:n<xs.length:=(aJ.1 hx).1;rcases h with⟨⟨_,rfl⟩,rfl,rfl⟩|⟨b,o0,cap,arr,T,fr,fps,rfl,hb,uG,hs,hc,hh,rfl,hl,hr⟩;simp at hx;have TN:fps[n]?=some fps[n]:=al (by omega);have NC:=Hz TN;refine⟨b,o0,cap,arr,T,fr,(fps.take n).flatten,fps[n],(fps.drop (n+1)).flatten,rfl,hb,hr n x _ hx TN,by rw[NC.1],?_⟩;refine⟨b,o0,cap,arr,T,fr,fps.set n [],rfl,hb,uG,hs,hc,hh,by rw[NC.2];simp,by simp[hl],Pf,by rw[bt];simp[hl,Pf],λi x' f hi E2 hf=>?_⟩;rw[aZ (cW hi)]at hf;exact hr i x' f E2 hf
theorem aaW {E:Env}(hE:kA P E.ty){o:Oper}(ho:o.op=.load T p)(hg:dM C g st a w []){K:AS->au R}{x:e.D}{i:Int}(hT:jR E.ty T=some sh)(zQ:iA (cO C g st w) (a.eval p) (.Hy fl e x i off) [])(hk:Et o sh fl e i off st K=some r):oX P C o a w K r:=by
 unfold Et at hk;split at hk;rename_i ep rt t;obtain⟨_,b,ob,hv,_,_,NS⟩:=zQ;obtain⟨_,n,o0,len,cap,vC,hrt,Pf,hob⟩:=NS rt t rfl;split at hk;rename_i t' e' ys iM;split at hk;rename_i he;subst he;split at hk;rename_i hc;obtain⟨rfl,rfl,Sv⟩:=hc;simp only at hk;cases JI:idx ys i with
 |none=>rw[JI]at hk;simp[aa]at hk
 |some y=>
  rw[JI]at hk;simp only[aa]at hk;have hyn:ys[n]?=some y:=by rw[vC]at JI;exact JI
  obtain⟨v0,f2,L2,C1,_,ng⟩:=hg.am7 rt (by simp) iM;obtain⟨b2,o2,abk,arr,T',fr,f1,fx,f3,Sz,kG,NQ,Hp,aq9⟩:=amQ L2.1 hyn;have h1:=(L2.2 t' rfl).2;have h2:g.hdr t'=.slice (some ⟨b,o0,none⟩) len cap:=hrt;have UZ:v0=g.hdr t':=h1;rw[h2,Sz]at UZ;simp only[Value.slice.injEq,bf,Addr.mk.injEq]at UZ;obtain⟨⟨rfl,rfl,_⟩,_⟩:=UZ;have kG:w.heap[b2]?=some (.cells arr T' fr):=kG;have hln:((arr.toList.drop (o2+n*e'.size)).take e'.size).length=e'.size:=eS.length NQ;have E1:∀j u,((arr.toList.drop (o2+n*e'.size)).take e'.size)[j]?=some u->w.cell? ⟨b2,ob+0+j,none⟩=some u:=by intro j u hu;rw[dk]at hu;split at hu;rw[bQ,cm]at hu;rw[oU kG,hob,dW];exact hu;cases hu
  obtain⟨v,ej,eM⟩:=Ef (hE T sh hT) b2 (ob+0) ((arr.toList.drop (o2+n*e'.size)).take e'.size) (by rw[hln,Sv]) E1;have NT:(execOp a.eval o).run P w=.ok (.value v) w:=by simp only[execOp,ho,hv,Instr.loadAt,Instr.sureAddr,Sem.run_bind,Sem.run_pure,Result.andThen_ok];show((loadVar T ⟨b2,ob+0,none⟩).run P w).andThen _=_;rw[ej];rfl
  rw[Hp]at C1;have xe:=dg.1 C1;have hn3:=xe.2;rw[aW]at hn3;have m1:=aG.1 hn3;have m2:=aG.1 m1.2.1;obtain⟨g',oV⟩:=ng (.sl (.fK (some t') i (some st.ep)) e' ys) (b2::(f1++f3)) fx v (.val sh.agg (cellsOf e' (.own none) y)) (λc' hle Tj Gv Ck=>by refine⟨λq hq=>?_,⟨n,vC,by rw[Tj,Gv];exact aq9⟩,λt ht=>?_⟩;simp at hq;subst hq;refine⟨by rw[Ck];exact ba _,λ_=>?_⟩;refine eS.rep (hw:=c'.hw) (fp:=f2) (λb o ho=> .inr ho) ?_;rw[Tj,Gv];exact L2.1;simp at ht;subst ht;have h0:=L2.2 t' rfl;exact⟨(hle.hdr t' h0.1).1,by rw[(hle.hdr t' h0.1).2];exact h0.2⟩) (by refine dg.2 ⟨λhm=>xe.1 (by rcases aA.1 hm with k|k<;>simp[k]),aG.2 ⟨m1.1,m2.2.1,?_⟩⟩;rintro c hc d hd rfl;exact m1.2.2 c hc c (bh _ hd) rfl) m2.1 (λc hc=>by rw[Hp];rcases cp.1 hc with rfl|hc;exact⟨by simp,λhm=>xe.1 (by simp[hm])⟩;rcases aA.1 hc with hc|hc;exact⟨by simp[hc],λhm=>m1.2.2 c hc c (br _ hm) rfl⟩;exact⟨by simp[hc],λhm=>m2.2.2 c hm c hc rfl⟩) (λc hc=>by rw[Hp];simp[hc]) ⟨_,eM,wz (c:=cO C g st w) NQ⟩;exact⟨_,_,_,.inl NT,dM.Kj oV o.dst,hk⟩
 cases hk;cases hk;cases hk;cases hk
theorem ajq {E:Env}(hE:kA P E.ty){an:An}{o:Oper}(ho:o.op=.load T p)(h:pF C st a w){K:AS->au R}(hk:sy E an o T p st K=some r):oX P C o a w K r:=by
 unfold sy at hk;obtain⟨g,hg⟩:=id h;split at hk;rename_i sh s off hT hp;have zQ:=hg.rd p;rw[hp]at zQ;have zQ:=H2 zQ;split at hk;rename_i cs kR;have kR:st.boxes[s]?=some (some cs):=by rw[dV]at kR;cases hq:st.boxes[s]? with|none=>rw[hq]at kR;simp at kR|some q=>rw[hq]at kR;simp at kR;rw[kR]
 split at hk;rename_i iy;obtain⟨arr,T',fr,fp,kG,uG,hr,hn,xe,hl,ND,NU⟩:=hg.boxes s cs kR;have hlen:=hr.length;have ZU:=Xz kG off sh.ct.size;obtain⟨v,ej,eM⟩:=Ef (hE T sh hT) (g.β s) off ((arr.toList.drop off).take sh.ct.size) (by simp at hlen⊢;omega) ZU;have NT:(execOp a.eval o).run P w=.ok (.value v) w:=by simp only[execOp,ho,zQ,Instr.loadAt,Instr.sureAddr,Sem.run_bind,Sem.run_pure,Result.andThen_ok];show((loadVar T ⟨g.β s,off,none⟩).run P w).andThen _=_;rw[ej];rfl
 split at hk;rename_i d hd;split at hk;obtain⟨g',oV⟩:=hg.ao5 s kR off sh.ct.size iy (gg:=sh.agg) (v:=v) (λaAh T2 fr2 h2=>by rw[kG]at h2;simp at h2;obtain⟨rfl,_⟩:=h2;exact eM);refine⟨_,_,_,.inl NT,?_,hk⟩;rw[hd];exact dM.Kj oV (some d);refine⟨_,_,_,.inl NT,?_,hk⟩;rw[hd];refine⟨g,hg.quiet (some d) ⟨_,eM,?_⟩⟩;obtain⟨f1,f2,f3,_,_,r2,_⟩:=hr.mid off sh.ct.size;exact bD.borrow (c:=cO C g st w) (.box s) off r2;cases hk;cases hk;cases hk;rename_i sh fl e x i off hT hp;have zQ:=hg.rd p;rw[hp]at zQ;have zQ:=eG zQ;split at hk;exact aaW hE ho hg hT zQ hk;split at hk;rename_i se;split at hk;rename_i iy
 have key:∃b o cs,a.eval p=.pointer (some ⟨b,o+off,none⟩)/\(∀j v,cs[j]?=some v->w.cell? ⟨b,o+j,none⟩=some v)/\bD (cO C g st w) cs (cellsOf e fl.bare x) []/\
  ∀ep rt t,fl=.loc ep (some (rt,t))->(cO C g st w).iss t/\(∃n o0 len cap:Nat,i=n/\(cO C g st w).hdr t=.slice (some ⟨b,o0,none⟩) len cap/\n<len/\o=o0+n*e.size)/\∀j v,cs[j]?=some v->(cO C g st w).S b (o+j):=by
  cases fl with
  |own t=>exact zQ.elim
  |nest _ _ _ _ _ _=>exact zQ.elim
  |part _ _ _ _=>exact zQ.elim
  |fK _ _ _=>exact zQ.elim
  |arg _=>
   obtain⟨_,b,o,hv,cs,hc,hr⟩:=zQ
   exact⟨b,o,cs,hv,λj v hj=>(hc j v hj).2,MP hr,λ_ _ _ he=>by cases he⟩
  |loc ep pv=>
   obtain⟨_,b,o,hv,h2,h3,h4⟩:=zQ
   have Ck:ep=st.ep:=by simpa[uv.live]using se
   obtain⟨cs,hc,hr⟩:=h3 Ck
   exact⟨b,o,cs,hv,λj v hj=>(hc j v hj).2,by simp only[uv.bare];rw[Ck];exact Nb hr,λep' rt t he=>by cases he;obtain⟨k1,k2⟩:=h4 rt t rfl;exact⟨k1,k2,λj v hj=>(hc j v hj).1⟩⟩
 obtain⟨b,ob,cs,hv,hc,dY,Hr⟩:=key;have hlen:=dY.length;rw[mB]at hlen;obtain⟨v,ej,eM⟩:=Ef (hE T sh hT) b (ob+off) ((cs.drop off).take sh.ct.size) (by simp;omega) (λj u hu=>by rw[dk]at hu;split at hu;rw[bQ]at hu;have:=hc _ _ hu;rwa[<-fY]at this;cases hu);have NT:(execOp a.eval o).run P w=.ok (.value v) w:=by simp only[execOp,ho,hv,Instr.loadAt,Instr.sureAddr,Sem.run_bind,Sem.run_pure,Result.andThen_ok];show((loadVar T ⟨b,ob+off,none⟩).run P w).andThen _=_;rw[ej];rfl
 obtain⟨f1,f2,f3,hf,_,r2,_⟩:=dY.mid off sh.ct.size;have Jn:f2=[]:=by cases f2 with|nil=>rfl|cons y ys=>simp at hf
 subst Jn;refine⟨_,_,_,.inl NT,⟨g,hg.quiet o.dst ?_⟩,hk⟩;refine⟨_,eM,?_⟩;unfold amJ;split;rename_i d _ _ _ _;cases an.nest.contains d with|false=>exact r2|true=>simp only[af];obtain⟨k1,⟨n,o0,len,cap,hi,hh,Pf,Tl⟩,hS⟩:=Hr _ _ _ rfl;refine VA (b:=b) (n:=n) (o0:=o0) (len:=len) (cap:=cap) k1 hi hh Pf _ off r2 (λj u hu=>?_);rw[dk]at hu;split at hu;rw[bQ]at hu;rw[<-Tl];exact⟨hS _ _ hu,hc _ _ hu⟩;cases hu
 exact r2;cases hk;exact agB hE ho hg hT zQ hk;cases hk
theorem Oi (h:off+vs.length<=cs.length):(du cs off vs).length=cs.length:=by simp[du];omega
theorem Ok {E:Env}(hE:kA P E.ty){o:Oper}{x:Operand}(hd:o.dst=none)(ho:o.op=.store T p x){K:AS->au R}{s:Nat}{st':AS}{g':Gh}(hT:jR E.ty T=some sh)(zQ:a.eval p=.pointer (some ⟨g'.β s,off,none⟩))(oV:dM C g' st' a w [(a.eval x,.val gg vs)])(kR:(nth st'.boxes s).getD none=some cs)(hlen:vs.length=sh.ct.size)(al3:vs.all AC.Qy=true)(iy:off+sh.ct.size<=cs.length)(hk:K (st'.eY s (some (du cs off vs)))=some r):oX P C o a w K r:=by
 have kR:st'.boxes[s]?=some (some cs):=by rw[dV]at kR;cases hq:st'.boxes[s]? with|none=>rw[hq]at kR;simp at kR|some q=>rw[hq]at kR;simp at kR;rw[kR]
 obtain⟨arr,T',fr,fp,kG,uG,hr,hn,xe,hl,ND,NU⟩:=oV.boxes s cs kR;obtain⟨fh,⟨us,eM,hrh⟩,Sy,hlh⟩:=oV.hands 0 _ _ rfl;have h1:=hrh.pt al3;have hul:=hrh.length;have hal:=hr.length;have aps:off+us.length<=arr.size:=by simp at hal;omega
 have ab8:=KA (P:=P) (w:=w) (hE T sh hT) (g'.β s) off eM (by omega) h1 kG uG aps;have ej:(execOp a.eval o).run P w=.ok .skip (zg w (g'.β s) (eX arr off us) T' fr):=by simp only[execOp,ho,zQ,Instr.storeAt,Instr.sureAddr,Sem.run_bind,Sem.run_pure,Result.andThen_ok];show((storeVar T ⟨g'.β s,off,none⟩ (a.eval x)).run P w).andThen _=_;rw[ab8];rfl
 have Lv:=og kG;obtain⟨f1,f2,f3,rfl,r1,r2,r3⟩:=hr.mid off us.length;have Ff:=hn;rw[aW]at Ff;have n1:=aG.1 Ff;have n2:=aG.1 n1.2.1;have WS:∀b∈fh,b≠g'.β s/\b∉f1++f2++f3:=by intro b hb;have X1:=hlh b hb;refine⟨λe=>?_,λhm=>?_⟩;rw[e,ND]at X1;cases X1;rw[hl b hm]at X1;cases X1
 have ap2:Fr (λb=>dm (g'.eo b)\/b=g'.β s) w (zg w (g'.β s) (eX arr off us) T' fr):=⟨rfl,rfl,rfl,by rw[nA];exact ba _,λb _ hb=>oT (λe=>hb (.inr e))⟩
 have az0:∀t,(if t=s then g'.β s else g'.β t)=g'.β t:=by intro t;split<;>simp_all
 have hle:(cO C g' st' w).Le ⟨g'.hw,λt=>if t=s then g'.β s else g'.β t,C.A,g'.hdr,nm st',st'.ep,ic st',zg w (g'.β s) (eX arr off us) T' fr⟩:=by
  refine⟨rfl,λ_ ht=>⟨ht,rfl⟩,λk b o u hA hu=>?_,ba _,λt ht=>⟨ht,az0 t⟩,λ_ b o u ho hu=>⟨ho,?_⟩⟩;have Jo:b≠g'.β s:=by rintro rfl;exact oV.RB ND k o hA
  rw[World.cell?_of_block (a:=⟨b,o,none⟩) (oT Jo)];exact hu;have Jo:b≠g'.β s:=by rintro rfl;have Tl:o<g'.hw (g'.β s):=ho;rw[NU]at Tl;omega
  rw[World.cell?_of_block (a:=⟨b,o,none⟩) (oT Jo)];exact hu
 have nO:∀b,b≠g'.β s->(zg w (g'.β s) (eX arr off us) T' fr).heap[b]?=w.heap[b]?:=λb hb=>oT hb;have dY:bD ⟨g'.hw,λt=>if t=s then g'.β s else g'.β t,C.A,g'.hdr,nm st',st'.ep,ic st',zg w (g'.β s) (eX arr off us) T' fr⟩ (eX arr off us).toList (du cs off vs) (f1++fh++f3):=by
  rw[BC us arr off aps];have e2:du cs off vs=cs.take off++vs++cs.drop (off+us.length):=by simp only[du];rw[hul]
  rw[e2];refine((r1.mono hle (λb hb=>⟨nO b (λe=>xe (by rw[<-e];simp[hb])),rfl⟩)).append (hrh.mono hle (λb hb=>⟨nO b (WS b hb).1,rfl⟩))).append (r3.mono hle (λb hb=>⟨nO b (λe=>xe (by rw[<-e];simp[hb])),rfl⟩))
 have aqc:(f1++fh++f3).Nodup:=by rw[aW];refine aG.2 ⟨n1.1,aG.2 ⟨Sy,n2.2.1,?_⟩,?_⟩;rintro b hb c hc rfl;exact(WS b hb).2 (by simp[hc]);rintro b hb c hc rfl;rcases aA.1 hc with hc|hc;exact(WS b hc).2 (by simp[hb]);exact n1.2.2 b hb b (bh _ hc) rfl
 obtain⟨g2,_,OJ⟩:=oV.aeD s (bnew:=g'.β s) (hw':=g'.hw) (.inl ⟨rfl,ND⟩) ap2 (CW Lv) (λj hj=>uG j (by rwa[jq]at hj)) (by rw[nA];exact Lv) NU
  (λ_ _ _ _ _=>rfl) (λb o u ho hu=>hle.ajV rfl b o u ho hu) dY aqc
  (by intro hm;simp only[aA]at hm
      rcases hm with(hm|hm)|hm
      ·exact xe (by simp[hm])
      ·exact(WS _ hm).1 rfl
      ·exact xe (by simp[hm]))
  (by intro b hm;rw[nA];simp only[aA]at hm
      rcases hm with(hm|hm)|hm
      ·exact⟨(oV.fV b _ (hl b (by simp[hm]))).1,.inr (.inl (hl b (by simp[hm])))⟩
      ·exact⟨(oV.fV b _ (hlh b hm)).1,.inl (by rw[hlh b hm];rfl)⟩
      ·exact⟨(oV.fV b _ (hl b (by simp[hm]))).1,.inr (.inl (hl b (by simp[hm])))⟩)
 refine⟨undef,_,_,.inr ⟨rfl,ej⟩,?_,hk⟩;rw[hd];exact⟨g2,OJ⟩
theorem Xj {E:Env}(hE:kA P E.ty){o:Oper}{x:Operand}(hd:o.dst=none)(ho:o.op=.store T p x)(h:pF C st a w){K:AS->au R}{s:Nat}{st':AS}(hT:jR E.ty T=some sh)(hp:st.rd p=.val false [.ptr s off])(xv:st.take x=(.val gg vs,st'))(kR:(nth st'.boxes s).getD none=some cs)(hlen:vs.length=sh.ct.size)(al3:vs.all AC.Qy=true)(iy:off+sh.ct.size<=cs.length)(hk:K (st'.eY s (some (du cs off vs)))=some r):oX P C o a w K r:=by obtain⟨g,hg⟩:=h;have zQ:=hg.rd p;rw[hp]at zQ;have zQ:=H2 zQ;obtain⟨g',⟨ON,_⟩,oV⟩:=hg.anJ x;rw[xv]at oV;exact Ok hE hd ho hT (by rw[ON];exact zQ) oV kR hlen al3 iy hk
end Go.Dn
