import Derived.Test.YtbebkmajekhclaaGreatDnOps1
/- Part 2: loads and stores. -/
namespace Go.Dn
open Go.RowKit
variable {P:Program} {C:Ctx} {st:AS} {a:Act} {w:World} {R:Type} {r:R}
variable {gg:Bool} {e:CT} {fl:rE} {g:Gh} {i:Int} {n off:Nat} {hw:Nat->Nat} {p:Operand} {c:RC} {sh:Shape} {T:TypeId} {v:Value} {cs vs:aw AC} {fp fp0:fE}
theorem bO.mid {vs:jd}{xs:aw AC}(h:bO c vs xs fp)(off n:Nat): ∃f1 f2 f3,fp=f1++f2++f3/\bO c (vs.take off) (xs.take off) f1/\bO c ((vs.drop off).take n) ((xs.drop off).take n) f2/\bO c (vs.drop (off+n)) (xs.drop (off+n)) f3:=by obtain⟨f1,g1,rfl,r1,r2⟩:=h.split off;obtain⟨f2,f3,rfl,r3,r4⟩:=r2.split n;rw[fw,fw]at r4;exact⟨f1,f2,f3,by simp,r1,r3,r4⟩
theorem RD {w:World}{b:Nat}{arr:Array Value}{fr:Nat×Nat}(hb:w.heap[b]?=some (.cells arr T fr))(off n:Nat): ∀j v,((arr.toList.drop off).take n)[j]?=some v->w.cell? ⟨b,off+j,none⟩=some v:=by intro j v hv;rw[dW]at hv;split at hv;rw[bS,cD]at hv;rw[pV hb];exact hv;cases hv
theorem CV {s:Nat}(h:gK c v (.val false [.ptr s off]) fp):v=.pointer (some ⟨c.β s,off,none⟩):=(fb h).1
theorem ew.amb (h:ew C g st a w [])(s:Nat)(hb:st.boxes[s]?=some (some cs))(off n:Nat)(ib:off+n<=cs.length)(fS:∀arr T fr,w.heap[g.β s]?=some (.cells arr T fr)->Cut gg v ((arr.toList.drop off).take n)): ∃g',ew C g' (st.fj s (some (eP cs off (bg st.ep ((cs.drop off).take n))))) a w [(v,.val gg ((cs.drop off).take n))]:=by
 obtain⟨arr,T,fr,fp,kL,tN,hr,hn,xH,hl,IV,IY⟩:=h.boxes s cs hb;obtain⟨f1,f2,f3,rfl,r1,r2,r3⟩:=hr.mid off n;have DH:=hn;rw[aY]at DH;have n1:=aN.1 DH;have n2:=aN.1 n1.2.1;have Ay:s<st.boxes.length:=(aC.1 hb).1;let g':Gh:={g with eX:=λb=>if b∈f2 then some (.hand 0) else g.eX b}
 let bU:AS:=st.fj s (some (eP cs off (bg st.ep ((cs.drop off).take n))));have hle:(db C g st w).Le (db C g' bU w):=Sx rfl (λ_ _ _ _ _ hv=>hv) (λ_ _=>rfl) (λ_ _ _ ho hu=>⟨ho,hu⟩);have ZE:∀b y,g.eX b=some y->b∉f2->g'.eX b=some y:=by intro b y hb hm;show(if b∈f2 then _ else _)=_;rw[aG hm];exact hb
 have Nh:∀b y,y≠ .box s->g.eX b=some y->b∉f2:=λb y hy hb hm=>hy (by have:=hl b (by simp[hm]);rw[hb]at this;simpa using this);refine⟨g',h.step (λy=>y≠ .box s) hle h.defers h.size (by show(st.fj s _).boxes.length=st.slots.length;rw[kI,aB];exact h.bsize) h.frame ?_ (λb y hy hb=>⟨ZE b y hb (Nh b y hy hb),rfl,rfl⟩) ?_ ?_ ?_ (.inl ⟨by simp,rfl⟩)⟩;intro b y hy;have VN:(if b∈f2 then some (kz.hand 0) else g.eX b)=some y:=hy;by_cases hm:b∈f2;exact h.gL b _ (hl b (by simp[hm]));rw[aG hm]at VN;exact h.gL b y VN;exact λi av hi=> .inl ⟨by simp,hi,rfl⟩;intro t rJ ht;have ZH:(st.boxes.set s (some (eP cs off (bg st.ep ((cs.drop off).take n)))))[t]?=some (some rJ):=by rw[<-kI];exact ht
 by_cases uM:t=s;subst uM;rw[bG]at ZH;simp only[cg,Ay]at ZH;simp at ZH;subst ZH;have K4:eP cs off (bg st.ep ((cs.drop off).take n))=cs.take off++bg st.ep ((cs.drop off).take n)++cs.drop (off+n):=by simp only[eP,bg,bL,aV,aL];rw[iI (by omega)]
 refine .inr ⟨arr,T,fr,f1++f3,kL,tN,?_,?_,?_,?_,?_,IY⟩;have e:arr.toList=arr.toList.take off++(arr.toList.drop off).take n++arr.toList.drop (off+n):=by rw[<-fw,aY,cE,cE]
 have hm1:=r1.mono hle (λb _=>⟨rfl,rfl⟩);have hm2:=(r2.bg).mono hle (by simp);have hm3:=r3.mono hle (λb _=>⟨rfl,rfl⟩);have hm4:=(hm1.append hm2).append hm3;rw[<-e,bI]at hm4;have e3:cs.take off++bg (db C g st w).ep ((cs.drop off).take n)++cs.drop (off+n)=eP cs off (bg st.ep ((cs.drop off).take n)):=K4.symm;rw[e3]at hm4;exact hm4;refine aN.2 ⟨n1.1,n2.2.1,?_⟩;rintro b hb c hc rfl;exact n1.2.2 b hb b (bu _ hc) rfl;intro hm;have hm':g.β t∈f1++f3:=hm;refine xH ?_;rcases az.1 hm' with k|k;exact bH _ (bH _ k);exact bu _ k;intro b hb;refine ZE b _ (hl b (by simp at hb⊢;rcases hb with hb|hb<;>simp[hb])) ?_;intro hm;rcases az.1 hb with hb|hb;exact n1.2.2 b hb b (bH _ hm) rfl;exact n2.2.2 b hm b hb rfl;refine ZE _ _ IV (λhm=>xH ?_);have hm':g.β t∈f2:=hm;exact bH _ (bu _ hm');rw[aP (cR uM)]at ZH;exact .inl ⟨by simpa using uM,ZH,rfl⟩;intro k u av hk;cases k with
 |zero=>simp only[cC,bp,Prod.mk.injEq]at hk;obtain⟨rfl,rfl⟩:=hk;refine .inr ⟨f2,⟨_,fS arr T fr kL,r2.mono hle (λb _=>⟨rfl,rfl⟩)⟩,n2.1,λb hb=>?_⟩;show(if b∈f2 then _ else _)=_;rw[aH hb]
 |succ k=>simp at hk
theorem iq.header {xs:aw e.D}(r:iq c v (.sl fl e xs) fp):∃o n k,v=.slice o n k/\n=xs.length:=by
 cases fl with
 |own t=>obtain⟨⟨u,hu,h⟩,_⟩:=r;simp at hu;subst hu;rcases h with⟨⟨_,rfl⟩,rfl,_⟩|⟨b,o0,cap,arr,T,fr,fps,rfl,_⟩;exact⟨_,_,_,rfl,rfl⟩;exact⟨_,_,_,rfl,rfl⟩
 |arg _=>obtain⟨_,u,hu,h⟩:=r;simp at hu;subst hu;rcases h with⟨⟨ad,rfl⟩,rfl⟩|⟨b,o,cap,rfl,_⟩;exact⟨_,_,_,rfl,rfl⟩;exact⟨_,_,_,rfl,rfl⟩
 |loc ep pv=>exact r.2.2.1
 |nest _ _ _ _ _ _=>exact r.2.2.1
 |part _ _ _ _=>exact r.2.2.1
 |fR _ _ _=>obtain⟨_,⟨k,_,b,o0,cap,arr,T,fr,fps,rfl,_⟩,_⟩:=r;exact⟨_,_,_,rfl,rfl⟩
theorem PC {b o0 len cap t:Nat}{rt:lh}{e:CT}(hi:c.iss t)(hn:i=n)(hh:c.hdr t=.slice (some ⟨b,o0,none⟩) len cap)(hl:n<len):∀(cs:aw AC)(p:Nat){vs:jd},bO c vs cs []->
 (∀j u,vs[j]?=some u->c.S b (o0+n*e.size+(p+j))/\c.w.cell? ⟨b,o0+n*e.size+(p+j),none⟩=some u)->bO c vs (U3 c.ep rt t e i p cs) []
 |[],_,vs,h,_=>by cases vs<;>exact h
 |x::cs,p,vs,h,hc=>by
  cases vs with
  |nil=>exact h.elim
  |cons v vs=>
   obtain⟨f1,f2,hf,h1,h2⟩:=h;have e1:f1=[]:=by have:=hf.symm;simp at this;exact this.1
   have e2:f2=[]:=by have:=hf.symm;simp at this;exact this.2
   subst e1;subst e2;have vO:=PC (rt:=rt) (e:=e) hi hn hh hl cs (p+1) h2 (λj u hu=>by have:=hc (j+1) u (by simpa using hu);rwa[show p+(j+1)=p+1+j by omega]at this);have hv:=hc 0 v rfl;cases x with|sl fl e' xs=>refine⟨[],[],rfl,⟨rfl,bh _,?_,λ_=>⟨hi,n,b,o0,len,cap,hn,hh,hl,?_,?_⟩⟩,vO⟩;exact iq.header h1;have:=hv.1;rwa[eG]at this;have:=hv.2;rwa[eG]at this|int _ _=>exact⟨[],[],rfl,h1,vO⟩|bool _=>exact⟨[],[],rfl,h1,vO⟩|str _=>exact⟨[],[],rfl,h1,vO⟩|kh=>exact⟨[],[],rfl,h1,vO⟩|ptr _ _=>exact⟨[],[],rfl,h1,vO⟩|Dc _ _ _ _ _=>exact⟨[],[],rfl,h1,vO⟩|fn _=>exact⟨[],[],rfl,h1,vO⟩|un=>exact⟨[],[],rfl,h1,vO⟩|bot=>exact⟨[],[],rfl,h1,vO⟩
theorem ao7 {w:World}{xs:aw e.D}(h:fQ hw w (.sl e) [v] xs fp0){x:e.D}(hx:xs[n]?=some x): ∃b o0 cap arr T fr fx,v=.slice (some ⟨b,o0,none⟩) xs.length cap/\w.heap[b]?=some (.cells arr T fr)/\fQ hw w e ((arr.toList.drop (o0+n*e.size)).take e.size) x fx:=by obtain⟨u,hu,h⟩:=h;simp at hu;subst hu;have Mm:n<xs.length:=(aC.1 hx).1;rcases h with⟨⟨_,rfl⟩,rfl,rfl⟩|⟨b,o0,cap,arr,T,fr,fps,rfl,hb,tN,hs,hc,hh,rfl,hl,hr⟩;simp at hx;have R9:fps[n]?=some fps[n]:=ak (by omega);exact⟨b,o0,cap,arr,T,fr,_,rfl,hb,hr n x _ hx R9⟩
theorem acG {E:Env}(hE:jR P E.ty){o:Oper}(ho:o.op=.load T p)(hg:ew C g st a w []){K:AS->ay R}{x:e.D}(hT:jD E.ty T=some sh)(vZ:iq (db C g st w) (a.eval p) (.Dc fl e x i off) [])(hk:EJ o sh fl e i off st K=some r):nC P C o a w K r:=by
 unfold EJ at hk;split at hk;rename_i ep rt t;obtain⟨_,b,ob,hv,_,_,HA⟩:=vZ;obtain⟨_,n,o0,len,cap,tV,hrt,Mm,hob⟩:=HA rt t rfl;split at hk;rename_i t' e' ys iE;split at hk;rename_i he;subst he;split at hk;rename_i hc;obtain⟨rfl,ib⟩:=hc;simp only at hk;cases FR:idx ys i with
 |none=>rw[FR]at hk;simp[aa]at hk
 |some y=>
  rw[FR]at hk;simp only[aa]at hk;have hyn:ys[n]?=some y:=by rw[tV]at FR;exact FR
  obtain⟨v0,f2,hh,ik,_,_,_⟩:=hg.Vj rt iE;obtain⟨b2,o2,Z8,arr,T',fr,fx,O5,kL,O1⟩:=ao7 ik hyn;have h1:=hh t' rfl;have h2:g.hdr t'=.slice (some ⟨b,o0,none⟩) len cap:=hrt;rw[h2,O5]at h1;simp only[Value.slice.injEq,bp,Addr.mk.injEq]at h1;obtain⟨⟨rfl,rfl,_⟩,_⟩:=h1;have hln:((arr.toList.drop (o2+n*e'.size)).take e'.size).length=e'.size:=fQ.length O1;have Jy:jG w (db C g st w).S e' ((arr.toList.drop (o2+n*e'.size)).take e'.size) y:=fQ.rep (λb o ho=> .inr ho) O1;have fG:bO (db C g st w) ((arr.toList.drop (o2+n*e'.size)).take e'.size) (cellsOf e' (.loc st.ep none) y) []:=G9 (c:=db C g st w) Jy;have DE:∀j u,((((arr.toList.drop (o2+n*e'.size)).take e'.size).drop off).take sh.ct.size)[j]?=some u->w.cell? ⟨b2,ob+off+j,none⟩=some u:=by intro j u hu;rw[dW]at hu;split at hu;rw[bS,dW]at hu;split at hu;rw[bS,cD]at hu;rw[pV kL,hob,gi];exact hu;cases hu;cases hu
  obtain⟨v,eU,fS⟩:=zJ (hE T sh hT) b2 (ob+off) ((((arr.toList.drop (o2+n*e'.size)).take e'.size).drop off).take sh.ct.size) (by simp only[aV,aL]at hln⊢;omega) DE;have HB:(execOp a.eval o).run P w=.ok (.value v) w:=by simp only[execOp,ho,hv,Instr.loadAt,Instr.sureAddr,Sem.run_bind,Sem.run_pure,Result.andThen_ok];show((loadVar T ⟨b2,ob+off,none⟩).run P w).andThen _=_;rw[eU];rfl
  obtain⟨f1,f2',f3,hf,_,r2,_⟩:=fG.mid off sh.ct.size;have Ax:f2'=[]:=by cases f2' with|nil=>rfl|cons y ys=>simp at hf
  subst Ax;refine⟨_,_,_,.inl HB,⟨g,hg.quiet o.dst ?_⟩,hk⟩;exact⟨_,fS,r2⟩
 cases hk;cases hk;cases hk;cases hk
theorem FI {fps:aw fE}{f:fE}(h:fps[n]?=some f): fps.flatten=(fps.take n).flatten++f++(fps.drop (n+1)).flatten/\∀f',(fps.set n f').flatten=(fps.take n).flatten++f'++(fps.drop (n+1)).flatten:=by
 have hn:n<fps.length:=(aC.1 h).1;have hf:fps[n]=f:=by rw[ak hn]at h;simpa using h
 constructor
 ·conv=>lhs;rw[<-cE n fps,ca hn,hf]
  simp
 intro f';rw[List.set_eq_take_append_cons_drop,aH hn];simp
theorem ajs {w:World}{xs:aw e.D}(h:fQ hw w (.sl e) [v] xs fp0){x:e.D}(hx:xs[n]?=some x): ∃b o0 cap arr T fr f1 fx f3,v=.slice (some ⟨b,o0,none⟩) xs.length cap/\w.heap[b]?=some (.cells arr T fr)/\fQ hw w e ((arr.toList.drop (o0+n*e.size)).take e.size) x fx/\ fp0=b::(f1++fx++f3)/\ag9 hw w e v xs n (b::(f1++f3)):=by obtain⟨u,hu,h⟩:=h;simp at hu;subst hu;have Mm:n<xs.length:=(aC.1 hx).1;rcases h with⟨⟨_,rfl⟩,rfl,rfl⟩|⟨b,o0,cap,arr,T,fr,fps,rfl,hb,tN,hs,hc,hh,rfl,hl,hr⟩;simp at hx;have R9:fps[n]?=some fps[n]:=ak (by omega);have IU:=FI R9;refine⟨b,o0,cap,arr,T,fr,(fps.take n).flatten,fps[n],(fps.drop (n+1)).flatten,rfl,hb,hr n x _ hx R9,by rw[IU.1],?_⟩;refine⟨b,o0,cap,arr,T,fr,fps.set n [],rfl,hb,tN,hs,hc,hh,by rw[IU.2];simp,by simp[hl],Mm,by rw[bG];simp[hl,Mm],λi x' f hi Cp hf=>?_⟩;rw[aP (cR hi)]at hf;exact hr i x' f Cp hf
theorem VC {E:Env}(hE:jR P E.ty){o:Oper}(ho:o.op=.load T p)(hg:ew C g st a w []){K:AS->ay R}{x:e.D}(hT:jD E.ty T=some sh)(vZ:iq (db C g st w) (a.eval p) (.Dc fl e x i off) [])(hk:zU o sh fl e i off st K=some r):nC P C o a w K r:=by
 unfold zU at hk;split at hk;rename_i ep rt t;obtain⟨_,b,ob,hv,_,_,HA⟩:=vZ;obtain⟨_,n,o0,len,cap,tV,hrt,Mm,hob⟩:=HA rt t rfl;split at hk;rename_i t' e' ys iE;split at hk;rename_i he;subst he;split at hk;rename_i hc;obtain⟨rfl,rfl,Mk⟩:=hc;simp only at hk;cases FR:idx ys i with
 |none=>rw[FR]at hk;simp[aa]at hk
 |some y=>
  rw[FR]at hk;simp only[aa]at hk;have hyn:ys[n]?=some y:=by rw[tV]at FR;exact FR
  obtain⟨v0,f2,Sf,Dh,_,pq⟩:=hg.ajG rt (by simp) iE;obtain⟨b2,o2,Z8,arr,T',fr,f1,fx,f3,O5,kL,O1,E7,aqd⟩:=ajs Sf.1 hyn;have h1:=(Sf.2 t' rfl).2;have h2:g.hdr t'=.slice (some ⟨b,o0,none⟩) len cap:=hrt;have QJ:v0=g.hdr t':=h1;rw[h2,O5]at QJ;simp only[Value.slice.injEq,bp,Addr.mk.injEq]at QJ;obtain⟨⟨rfl,rfl,_⟩,_⟩:=QJ;have kL:w.heap[b2]?=some (.cells arr T' fr):=kL;have hln:((arr.toList.drop (o2+n*e'.size)).take e'.size).length=e'.size:=fQ.length O1;have DE:∀j u,((arr.toList.drop (o2+n*e'.size)).take e'.size)[j]?=some u->w.cell? ⟨b2,ob+0+j,none⟩=some u:=by intro j u hu;rw[dW]at hu;split at hu;rw[bS,cD]at hu;rw[pV kL,hob,eG];exact hu;cases hu
  obtain⟨v,eU,fS⟩:=zJ (hE T sh hT) b2 (ob+0) ((arr.toList.drop (o2+n*e'.size)).take e'.size) (by rw[hln,Mk]) DE;have HB:(execOp a.eval o).run P w=.ok (.value v) w:=by simp only[execOp,ho,hv,Instr.loadAt,Instr.sureAddr,Sem.run_bind,Sem.run_pure,Result.andThen_ok];show((loadVar T ⟨b2,ob+0,none⟩).run P w).andThen _=_;rw[eU];rfl
  rw[E7]at Dh;have xH:=dD.1 Dh;have hn3:=xH.2;rw[aY]at hn3;have m1:=aN.1 hn3;have m2:=aN.1 m1.2.1;obtain⟨g',oX⟩:=pq (.sl (.fR (some t') i (some st.ep)) e' ys) (b2::(f1++f3)) fx v (.val sh.agg (cellsOf e' (.own none) y)) (λc' hle VK Ho Ac=>by refine⟨λq hq=>?_,⟨n,tV,by rw[VK,Ho];exact aqd⟩,λt ht=>?_⟩;simp at hq;subst hq;refine⟨by rw[Ac];exact bh _,λ_=>?_⟩;refine fQ.rep (hw:=c'.hw) (fp:=f2) (λb o ho=> .inr ho) ?_;rw[VK,Ho];exact Sf.1;simp at ht;subst ht;have h0:=Sf.2 t' rfl;exact⟨(hle.hdr t' h0.1).1,by rw[(hle.hdr t' h0.1).2];exact h0.2⟩) (by refine dD.2 ⟨λhm=>xH.1 (by rcases az.1 hm with k|k<;>simp[k]),aN.2 ⟨m1.1,m2.2.1,?_⟩⟩;rintro c hc d hd rfl;exact m1.2.2 c hc c (bu _ hd) rfl) m2.1 (λc hc=>by rw[E7];rcases bM.1 hc with rfl|hc;exact⟨by simp,λhm=>xH.1 (by simp[hm])⟩;rcases az.1 hc with hc|hc;exact⟨by simp[hc],λhm=>m1.2.2 c hc c (bH _ hm) rfl⟩;exact⟨by simp[hc],λhm=>m2.2.2 c hm c hc rfl⟩) (λc hc=>by rw[E7];simp[hc]) ⟨_,fS,Bu (c:=db C g st w) O1⟩;exact⟨_,_,_,.inl HB,ew.Ez oX o.dst,hk⟩
 cases hk;cases hk;cases hk;cases hk
theorem afE {E:Env}(hE:jR P E.ty){an:An}{o:Oper}(ho:o.op=.load T p)(h:pc C st a w){K:AS->ay R}(hk:qj E an o T p st K=some r):nC P C o a w K r:=by
 unfold qj at hk;obtain⟨g,hg⟩:=id h;split at hk;rename_i sh s off hT hp;have vZ:=hg.rd p;rw[hp]at vZ;have vZ:=CV vZ;split at hk;rename_i cs kq;have kq:st.boxes[s]?=some (some cs):=by rw[ej]at kq;cases hq:st.boxes[s]? with|none=>rw[hq]at kq;simp at kq|some q=>rw[hq]at kq;simp at kq;rw[kq]
 split at hk;rename_i ib;obtain⟨arr,T',fr,fp,kL,tN,hr,hn,xH,hl,IV,IY⟩:=hg.boxes s cs kq;have hlen:=hr.length;have an6:=RD kL off sh.ct.size;obtain⟨v,eU,fS⟩:=zJ (hE T sh hT) (g.β s) off ((arr.toList.drop off).take sh.ct.size) (by simp at hlen⊢;omega) an6;have HB:(execOp a.eval o).run P w=.ok (.value v) w:=by simp only[execOp,ho,vZ,Instr.loadAt,Instr.sureAddr,Sem.run_bind,Sem.run_pure,Result.andThen_ok];show((loadVar T ⟨g.β s,off,none⟩).run P w).andThen _=_;rw[eU];rfl
 split at hk;rename_i d hd;split at hk;obtain⟨g',oX⟩:=hg.amb s kq off sh.ct.size ib (gg:=sh.agg) (v:=v) (λawc T2 fr2 h2=>by rw[kL]at h2;simp at h2;obtain⟨rfl,_⟩:=h2;exact fS);refine⟨_,_,_,.inl HB,?_,hk⟩;rw[hd];exact ew.Ez oX (some d);refine⟨_,_,_,.inl HB,?_,hk⟩;rw[hd];refine⟨g,hg.quiet (some d) ⟨_,fS,?_⟩⟩;obtain⟨f1,f2,f3,_,_,r2,_⟩:=hr.mid off sh.ct.size;exact bO.borrow (c:=db C g st w) (.box s) off r2;cases hk;cases hk;cases hk;rename_i sh fl e x i off hT hp;have vZ:=hg.rd p;rw[hp]at vZ;have vZ:=fb vZ;split at hk;exact VC hE ho hg hT vZ hk;split at hk;rename_i qa;split at hk;rename_i ib
 have key:∃b o cs,a.eval p=.pointer (some ⟨b,o+off,none⟩)/\(∀j v,cs[j]?=some v->w.cell? ⟨b,o+j,none⟩=some v)/\bO (db C g st w) cs (cellsOf e fl.bare x) []/\
  ∀ep rt t,fl=.loc ep (some (rt,t))->(db C g st w).iss t/\(∃n o0 len cap:Nat,i=n/\(db C g st w).hdr t=.slice (some ⟨b,o0,none⟩) len cap/\n<len/\o=o0+n*e.size)/\∀j v,cs[j]?=some v->(db C g st w).S b (o+j):=by
  cases fl with
  |own t=>exact vZ.elim
  |nest _ _ _ _ _ _=>exact vZ.elim
  |part _ _ _ _=>exact vZ.elim
  |fR _ _ _=>exact vZ.elim
  |arg _=>
   obtain⟨_,b,o,hv,cs,hc,hr⟩:=vZ
   exact⟨b,o,cs,hv,λj v hj=>(hc j v hj).2,GI hr,λ_ _ _ he=>by cases he⟩
  |loc ep pv=>
   obtain⟨_,b,o,hv,h2,h3,h4⟩:=vZ
   have Ac:ep=st.ep:=by simpa[rE.live]using qa
   obtain⟨cs,hc,hr⟩:=h3 Ac
   exact⟨b,o,cs,hv,λj v hj=>(hc j v hj).2,by simp only[rE.bare];rw[Ac];exact G9 hr,λep' rt t he=>by cases he;obtain⟨k1,k2⟩:=h4 rt t rfl;exact⟨k1,k2,λj v hj=>(hc j v hj).1⟩⟩
 obtain⟨b,ob,cs,hv,hc,fG,GZ⟩:=key;have hlen:=fG.length;rw[lF]at hlen;obtain⟨v,eU,fS⟩:=zJ (hE T sh hT) b (ob+off) ((cs.drop off).take sh.ct.size) (by simp;omega) (λj u hu=>by rw[dW]at hu;split at hu;rw[bS]at hu;have:=hc _ _ hu;rwa[<-gi]at this;cases hu);have HB:(execOp a.eval o).run P w=.ok (.value v) w:=by simp only[execOp,ho,hv,Instr.loadAt,Instr.sureAddr,Sem.run_bind,Sem.run_pure,Result.andThen_ok];show((loadVar T ⟨b,ob+off,none⟩).run P w).andThen _=_;rw[eU];rfl
 obtain⟨f1,f2,f3,hf,_,r2,_⟩:=fG.mid off sh.ct.size;have Ax:f2=[]:=by cases f2 with|nil=>rfl|cons y ys=>simp at hf
 subst Ax;refine⟨_,_,_,.inl HB,⟨g,hg.quiet o.dst ?_⟩,hk⟩;refine⟨_,fS,?_⟩;unfold aji;split;rename_i d _ _ _ _;cases an.nest.contains d with|false=>exact r2|true=>simp only[ah];obtain⟨k1,⟨n,o0,len,cap,hi,hh,Mm,Ni⟩,hS⟩:=GZ _ _ _ rfl;refine PC (b:=b) (n:=n) (o0:=o0) (len:=len) (cap:=cap) k1 hi hh Mm _ off r2 (λj u hu=>?_);rw[dW]at hu;split at hu;rw[bS]at hu;rw[<-Ni];exact⟨hS _ _ hu,hc _ _ hu⟩;cases hu
 exact r2;cases hk;exact acG hE ho hg hT vZ hk;cases hk
theorem HT (h:off+vs.length<=cs.length):(eP cs off vs).length=cs.length:=by simp[eP];omega
theorem HX {E:Env}(hE:jR P E.ty){o:Oper}{x:Operand}(hd:o.dst=none)(ho:o.op=.store T p x){K:AS->ay R}{s:Nat}{bU:AS}{g':Gh}(hT:jD E.ty T=some sh)(vZ:a.eval p=.pointer (some ⟨g'.β s,off,none⟩))(oX:ew C g' bU a w [(a.eval x,.val gg vs)])(kq:(nth bU.boxes s).getD none=some cs)(hlen:vs.length=sh.ct.size)(aiJ:vs.all AC.Kl=true)(ib:off+sh.ct.size<=cs.length)(hk:K (bU.fj s (some (eP cs off vs)))=some r):nC P C o a w K r:=by
 have kq:bU.boxes[s]?=some (some cs):=by rw[ej]at kq;cases hq:bU.boxes[s]? with|none=>rw[hq]at kq;simp at kq|some q=>rw[hq]at kq;simp at kq;rw[kq]
 obtain⟨arr,T',fr,fp,kL,tN,hr,hn,xH,hl,IV,IY⟩:=oX.boxes s cs kq;obtain⟨fh,⟨us,fS,ZG⟩,QK,Xc⟩:=oX.hands 0 _ _ rfl;have h1:=ZG.nR aiJ;have hul:=ZG.length;have hal:=hr.length;have amI:off+us.length<=arr.size:=by simp at hal;omega
 have Xh:=EM (P:=P) (w:=w) (hE T sh hT) (g'.β s) off fS (by omega) h1 kL tN amI;have eU:(execOp a.eval o).run P w=.ok .skip (vG w (g'.β s) (ff arr off us) T' fr):=by simp only[execOp,ho,vZ,Instr.storeAt,Instr.sureAddr,Sem.run_bind,Sem.run_pure,Result.andThen_ok];show((storeVar T ⟨g'.β s,off,none⟩ (a.eval x)).run P w).andThen _=_;rw[Xh];rfl
 have GV:=na kL;obtain⟨f1,f2,f3,rfl,r1,r2,r3⟩:=hr.mid off us.length;have DH:=hn;rw[aY]at DH;have n1:=aN.1 DH;have n2:=aN.1 n1.2.1;have QX:∀b∈fh,b≠g'.β s/\b∉f1++f2++f3:=by intro b hb;have Sa:=Xc b hb;refine⟨λe=>?_,λhm=>?_⟩;rw[e,IV]at Sa;cases Sa;rw[hl b hm]at Sa;cases Sa
 have anY:Fr (λb=>ei (g'.eX b)\/b=g'.β s) w (vG w (g'.β s) (ff arr off us) T' fr):=⟨rfl,rfl,rfl,by rw[mB];exact bh _,λb _ hb=>nu (λe=>hb (.inr e))⟩
 have avL:∀t,(if t=s then g'.β s else g'.β t)=g'.β t:=by intro t;split<;>simp_all
 have hle:(db C g' bU w).Le ⟨g'.hw,λt=>if t=s then g'.β s else g'.β t,C.A,g'.hdr,nD bU,bU.ep,jF bU,vG w (g'.β s) (ff arr off us) T' fr⟩:=by
  refine⟨rfl,λ_ ht=>⟨ht,rfl⟩,λk b o u hA hu=>?_,bh _,λt ht=>⟨ht,avL t⟩,λ_ b o u ho hu=>⟨ho,?_⟩⟩;have DK:b≠g'.β s:=by rintro rfl;exact oX.Pq IV k o hA
  rw[World.cell?_of_block (a:=⟨b,o,none⟩) (nu DK)];exact hu;have DK:b≠g'.β s:=by rintro rfl;have Ni:o<g'.hw (g'.β s):=ho;rw[IY]at Ni;omega
  rw[World.cell?_of_block (a:=⟨b,o,none⟩) (nu DK)];exact hu
 have ud:∀b,b≠g'.β s->(vG w (g'.β s) (ff arr off us) T' fr).heap[b]?=w.heap[b]?:=λb hb=>nu hb;have fG:bO ⟨g'.hw,λt=>if t=s then g'.β s else g'.β t,C.A,g'.hdr,nD bU,bU.ep,jF bU,vG w (g'.β s) (ff arr off us) T' fr⟩ (ff arr off us).toList (eP cs off vs) (f1++fh++f3):=by
  rw[xe us arr off amI];have e2:eP cs off vs=cs.take off++vs++cs.drop (off+us.length):=by simp only[eP];rw[hul]
  rw[e2];refine((r1.mono hle (λb hb=>⟨ud b (λe=>xH (by rw[<-e];simp[hb])),rfl⟩)).append (ZG.mono hle (λb hb=>⟨ud b (QX b hb).1,rfl⟩))).append (r3.mono hle (λb hb=>⟨ud b (λe=>xH (by rw[<-e];simp[hb])),rfl⟩))
 have aoa:(f1++fh++f3).Nodup:=by rw[aY];refine aN.2 ⟨n1.1,aN.2 ⟨QK,n2.2.1,?_⟩,?_⟩;rintro b hb c hc rfl;exact(QX b hb).2 (by simp[hc]);rintro b hb c hc rfl;rcases az.1 hc with hc|hc;exact(QX b hc).2 (by simp[hb]);exact n1.2.2 b hb b (bu _ hc) rfl
 obtain⟨g2,_,Ik⟩:=oX.ZZ s (bnew:=g'.β s) (hw':=g'.hw) (.inl ⟨rfl,IV⟩) anY (yp GV) (λj hj=>tN j (by rwa[jb]at hj)) (by rw[mB];exact GV) IY
  (λ_ _ _ _ _=>rfl) (λb o u ho hu=>hle.agf rfl b o u ho hu) fG aoa
  (by intro hm;simp only[az]at hm
      rcases hm with(hm|hm)|hm
      ·exact xH (by simp[hm])
      ·exact(QX _ hm).1 rfl
      ·exact xH (by simp[hm]))
  (by intro b hm;rw[mB];simp only[az]at hm
      rcases hm with(hm|hm)|hm
      ·exact⟨(oX.gL b _ (hl b (by simp[hm]))).1,.inr (.inl (hl b (by simp[hm])))⟩
      ·exact⟨(oX.gL b _ (Xc b hm)).1,.inl (by rw[Xc b hm];rfl)⟩
      ·exact⟨(oX.gL b _ (hl b (by simp[hm]))).1,.inr (.inl (hl b (by simp[hm])))⟩)
 refine⟨undef,_,_,.inr ⟨rfl,eU⟩,?_,hk⟩;rw[hd];exact⟨g2,Ik⟩
theorem Rp {E:Env}(hE:jR P E.ty){o:Oper}{x:Operand}(hd:o.dst=none)(ho:o.op=.store T p x)(h:pc C st a w){K:AS->ay R}{s:Nat}{bU:AS}(hT:jD E.ty T=some sh)(hp:st.rd p=.val false [.ptr s off])(ue:st.take x=(.val gg vs,bU))(kq:(nth bU.boxes s).getD none=some cs)(hlen:vs.length=sh.ct.size)(aiJ:vs.all AC.Kl=true)(ib:off+sh.ct.size<=cs.length)(hk:K (bU.fj s (some (eP cs off vs)))=some r):nC P C o a w K r:=by obtain⟨g,hg⟩:=h;have vZ:=hg.rd p;rw[hp]at vZ;have vZ:=CV vZ;obtain⟨g',⟨K5,_⟩,oX⟩:=hg.akB x;rw[ue]at oX;exact HX hE hd ho hT (by rw[K5];exact vZ) oX kq hlen aiJ ib hk
end Go.Dn
