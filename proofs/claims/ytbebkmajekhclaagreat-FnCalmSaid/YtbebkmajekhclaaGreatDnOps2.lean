import Derived.Test.YtbebkmajekhclaaGreatDnOps1
/- Part 2: loads and stores. -/
namespace Go.Dn
open Go.RowKit
variable {P:Program} {C:Ctx} {st:AS} {a:Act} {w:World} {R:Type} {r:R}
variable {gg:Bool} {e:CT} {fl:sO} {g:Gh} {i:Int} {n off:Nat} {hw:Nat->Nat} {p:Operand} {c:RC} {sh:Shape} {T:TypeId} {v:Value} {cs vs:aw AC} {fp fp0:fM}
theorem bV.mid {vs:jJ}{xs:aw AC}(h:bV c vs xs fp)(off n:Nat): ∃f1 f2 f3,fp=f1++f2++f3/\bV c (vs.take off) (xs.take off) f1/\bV c ((vs.drop off).take n) ((xs.drop off).take n) f2/\bV c (vs.drop (off+n)) (xs.drop (off+n)) f3:=by obtain⟨f1,g1,rfl,r1,r2⟩:=h.split off;obtain⟨f2,f3,rfl,r3,r4⟩:=r2.split n;rw[fP,fP]at r4;exact⟨f1,f2,f3,by simp,r1,r3,r4⟩
theorem TM {w:World}{b:Nat}{arr:Array Value}{fr:Nat×Nat}(hb:w.heap[b]?=some (.cells arr T fr))(off n:Nat): ∀j v,((arr.toList.drop off).take n)[j]?=some v->w.cell? ⟨b,off+j,none⟩=some v:=by intro j v hv;rw[eG]at hv;split at hv;rw[bR,cP]at hv;rw[qN hb];exact hv;cases hv
theorem DM {s:Nat}(h:il c v (.val false [.ptr s off]) fp):v=.pointer (some ⟨c.β s,off,none⟩):=(fH h).1
theorem fb.aor (h:fb C g st a w [])(s:Nat)(hb:st.boxes[s]?=some (some cs))(off n:Nat)(iO:off+n<=cs.length)(gD:∀arr T fr,w.heap[g.β s]?=some (.cells arr T fr)->Cut gg v ((arr.toList.drop off).take n)): ∃g',fb C g' (st.fO s (some (fu cs off (bg st.ep ((cs.drop off).take n))))) a w [(v,.val gg ((cs.drop off).take n))]:=by
 obtain⟨arr,T,fr,fp,lQ,uR,hr,hn,yJ,hl,J2,J5⟩:=h.boxes s cs hb;obtain⟨f1,f2,f3,rfl,r1,r2,r3⟩:=hr.mid off n;have En:=hn;rw[aR]at En;have n1:=aS.1 En;have n2:=aS.1 n1.2.1;have Bt:s<st.boxes.length:=(ay.1 hb).1;let g':Gh:={g with fE:=λb=>if b∈f2 then some (.hand 0) else g.fE b}
 let cj:AS:=st.fO s (some (fu cs off (bg st.ep ((cs.drop off).take n))));have hle:(dz C g st w).Le (dz C g' cj w):=UF rfl (λ_ _ _ _ _ hv=>hv) (λ_ _=>rfl) (λ_ _ _ ho hu=>⟨ho,hu⟩);have hlk:∀b y,g.fE b=some y->b∉f2->g'.fE b=some y:=by intro b y hb hm;show(if b∈f2 then _ else _)=_;rw[aG hm];exact hb
 have OP:∀b y,y≠ .box s->g.fE b=some y->b∉f2:=λb y hy hb hm=>hy (by have:=hl b (by simp[hm]);rw[hb]at this;simpa using this);refine⟨g',h.step (λy=>y≠ .box s) hle h.defers h.size (by show(st.fO s _).boxes.length=st.slots.length;rw[lM,az];exact h.bsize) h.frame ?_ (λb y hy hb=>⟨hlk b y hb (OP b y hy hb),rfl,rfl⟩) ?_ ?_ ?_ (.inl ⟨by simp,rfl⟩)⟩;intro b y hy;have XW:(if b∈f2 then some (lz.hand 0) else g.fE b)=some y:=hy;by_cases hm:b∈f2;exact h.im b _ (hl b (by simp[hm]));rw[aG hm]at XW;exact h.im b y XW;exact λi av hi=> .inl ⟨by simp,hi,rfl⟩;intro t sU ht;have ht':(st.boxes.set s (some (fu cs off (bg st.ep ((cs.drop off).take n)))))[t]?=some (some sU):=by rw[<-lM];exact ht
 by_cases vS:t=s;subst vS;rw[bJ]at ht';simp only[cw,Bt]at ht';simp at ht';subst ht';have Mn:fu cs off (bg st.ep ((cs.drop off).take n))=cs.take off++bg st.ep ((cs.drop off).take n)++cs.drop (off+n):=by simp only[fu,bg,bF,aV,aM];rw[jk (by omega)]
 refine .inr ⟨arr,T,fr,f1++f3,lQ,uR,?_,?_,?_,?_,?_,J5⟩;have e:arr.toList=arr.toList.take off++(arr.toList.drop off).take n++arr.toList.drop (off+n):=by rw[<-fP,aR,cR,cR]
 have hm1:=r1.mono hle (λb _=>⟨rfl,rfl⟩);have hm2:=(r2.bg).mono hle (by simp);have hm3:=r3.mono hle (λb _=>⟨rfl,rfl⟩);have hm4:=(hm1.append hm2).append hm3;rw[<-e,bD]at hm4;have e3:cs.take off++bg (dz C g st w).ep ((cs.drop off).take n)++cs.drop (off+n)=fu cs off (bg st.ep ((cs.drop off).take n)):=Mn.symm;rw[e3]at hm4;exact hm4;refine aS.2 ⟨n1.1,n2.2.1,?_⟩;rintro b hb c hc rfl;exact n1.2.2 b hb b (bz _ hc) rfl;intro hm;have hm':g.β t∈f1++f3:=hm;refine yJ ?_;rcases aA.1 hm' with k|k;exact bH _ (bH _ k);exact bz _ k;intro b hb;refine hlk b _ (hl b (by simp at hb⊢;rcases hb with hb|hb<;>simp[hb])) ?_;intro hm;rcases aA.1 hb with hb|hb;exact n1.2.2 b hb b (bH _ hm) rfl;exact n2.2.2 b hm b hb rfl;refine hlk _ _ J2 (λhm=>yJ ?_);have hm':g.β t∈f2:=hm;exact bH _ (bz _ hm');rw[aE (cl vS)]at ht';exact .inl ⟨by simpa using vS,ht',rfl⟩;intro k u av hk;cases k with
 |zero=>simp only[cM,bu,Prod.mk.injEq]at hk;obtain⟨rfl,rfl⟩:=hk;refine .inr ⟨f2,⟨_,gD arr T fr lQ,r2.mono hle (λb _=>⟨rfl,rfl⟩)⟩,n2.1,λb hb=>?_⟩;show(if b∈f2 then _ else _)=_;rw[aH hb]
 |succ k=>simp at hk
theorem iV.header {xs:aw e.D}(r:iV c v (.sl fl e xs) fp):∃o n k,v=.slice o n k/\n=xs.length:=by
 cases fl with
 |own t=>obtain⟨⟨u,hu,h⟩,_⟩:=r;simp at hu;subst hu;rcases h with⟨⟨_,rfl⟩,rfl,_⟩|⟨b,o0,cap,arr,T,fr,fps,rfl,_⟩;exact⟨_,_,_,rfl,rfl⟩;exact⟨_,_,_,rfl,rfl⟩
 |arg _=>obtain⟨_,u,hu,h⟩:=r;simp at hu;subst hu;rcases h with⟨⟨ad,rfl⟩,rfl⟩|⟨b,o,cap,rfl,_⟩;exact⟨_,_,_,rfl,rfl⟩;exact⟨_,_,_,rfl,rfl⟩
 |loc ep pv=>exact r.2.2.1
 |nest _ _ _ _ _ _=>exact r.2.2.1
 |part _ _ _ _=>exact r.2.2.1
 |gB _ _ _=>obtain⟨_,⟨k,_,b,o0,cap,arr,T,fr,fps,rfl,_⟩,_⟩:=r;exact⟨_,_,_,rfl,rfl⟩
theorem Rt {b o0 len cap t:Nat}{rt:mi}{e:CT}(hi:c.iss t)(hn:i=n)(hh:c.hdr t=.slice (some ⟨b,o0,none⟩) len cap)(hl:n<len):∀(cs:aw AC)(p:Nat){vs:jJ},bV c vs cs []->
 (∀j u,vs[j]?=some u->c.S b (o0+n*e.size+(p+j))/\c.w.cell? ⟨b,o0+n*e.size+(p+j),none⟩=some u)->bV c vs (Xg c.ep rt t e i p cs) []
 |[],_,vs,h,_=>by cases vs<;>exact h
 |x::cs,p,vs,h,hc=>by
  cases vs with
  |nil=>exact h.elim
  |cons v vs=>
   obtain⟨f1,f2,hf,h1,h2⟩:=h;have e1:f1=[]:=by have:=hf.symm;simp at this;exact this.1
   have e2:f2=[]:=by have:=hf.symm;simp at this;exact this.2
   subst e1;subst e2;have wX:=Rt (rt:=rt) (e:=e) hi hn hh hl cs (p+1) h2 (λj u hu=>by have:=hc (j+1) u (by simpa using hu);rwa[show p+(j+1)=p+1+j by omega]at this);have hv:=hc 0 v rfl;cases x with|sl fl e' xs=>refine⟨[],[],rfl,⟨rfl,bc _,?_,λ_=>⟨hi,n,b,o0,len,cap,hn,hh,hl,?_,?_⟩⟩,wX⟩;exact iV.header h1;have:=hv.1;rwa[dX]at this;have:=hv.2;rwa[dX]at this|int _ _=>exact⟨[],[],rfl,h1,wX⟩|bool _=>exact⟨[],[],rfl,h1,wX⟩|str _=>exact⟨[],[],rfl,h1,wX⟩|kY=>exact⟨[],[],rfl,h1,wX⟩|ptr _ _=>exact⟨[],[],rfl,h1,wX⟩|D3 _ _ _ _ _=>exact⟨[],[],rfl,h1,wX⟩|fn _=>exact⟨[],[],rfl,h1,wX⟩|un=>exact⟨[],[],rfl,h1,wX⟩|bot=>exact⟨[],[],rfl,h1,wX⟩
theorem are {w:World}{xs:aw e.D}(h:gA hw w (.sl e) [v] xs fp0){x:e.D}(hx:xs[n]?=some x): ∃b o0 cap arr T fr fx,v=.slice (some ⟨b,o0,none⟩) xs.length cap/\w.heap[b]?=some (.cells arr T fr)/\gA hw w e ((arr.toList.drop (o0+n*e.size)).take e.size) x fx:=by obtain⟨u,hu,h⟩:=h;simp at hu;subst hu;have NL:n<xs.length:=(ay.1 hx).1;rcases h with⟨⟨_,rfl⟩,rfl,rfl⟩|⟨b,o0,cap,arr,T,fr,fps,rfl,hb,uR,hs,hc,hh,rfl,hl,hr⟩;simp at hx;have SI:fps[n]?=some fps[n]:=al (by omega);exact⟨b,o0,cap,arr,T,fr,_,rfl,hb,hr n x _ hx SI⟩
theorem aet {E:Env}(hE:kG P E.ty){o:Oper}(ho:o.op=.load T p)(hg:fb C g st a w []){K:AS->aB R}{x:e.D}(hT:ko E.ty T=some sh)(xm:iV (dz C g st w) (a.eval p) (.D3 fl e x i off) [])(hk:FD o sh fl e i off st K=some r):ox P C o a w K r:=by
 unfold FD at hk;split at hk;rename_i ep rt t;obtain⟨_,b,ob,hv,_,_,IJ⟩:=xm;obtain⟨_,n,o0,len,cap,uX,hrt,NL,hob⟩:=IJ rt t rfl;split at hk;rename_i t' e' ys jh;split at hk;rename_i he;subst he;split at hk;rename_i hc;obtain⟨rfl,iO⟩:=hc;simp only at hk;cases GP:idx ys i with
 |none=>rw[GP]at hk;simp[aa]at hk
 |some y=>
  rw[GP]at hk;simp only[aa]at hk;have hyn:ys[n]?=some y:=by rw[uX]at GP;exact GP
  obtain⟨v0,f2,hh,ja,_,_,_⟩:=hg.Xx rt jh;obtain⟨b2,o2,abV,arr,T',fr,fx,QT,lQ,QP⟩:=are ja hyn;have h1:=hh t' rfl;have h2:g.hdr t'=.slice (some ⟨b,o0,none⟩) len cap:=hrt;rw[h2,QT]at h1;simp only[Value.slice.injEq,bu,Addr.mk.injEq]at h1;obtain⟨⟨rfl,rfl,_⟩,_⟩:=h1;have hln:((arr.toList.drop (o2+n*e'.size)).take e'.size).length=e'.size:=gA.length QP;have KG:ky w (dz C g st w).S e' ((arr.toList.drop (o2+n*e'.size)).take e'.size) y:=gA.rep (λb o ho=> .inr ho) QP;have fZ:bV (dz C g st w) ((arr.toList.drop (o2+n*e'.size)).take e'.size) (cellsOf e' (.loc st.ep none) y) []:=H9 (c:=dz C g st w) KG;have Ew:∀j u,((((arr.toList.drop (o2+n*e'.size)).take e'.size).drop off).take sh.ct.size)[j]?=some u->w.cell? ⟨b2,ob+off+j,none⟩=some u:=by intro j u hu;rw[eG]at hu;split at hu;rw[bR,eG]at hu;split at hu;rw[bR,cP]at hu;rw[qN lQ,hob,gv];exact hu;cases hu;cases hu
  obtain⟨v,fD,gD⟩:=Az (hE T sh hT) b2 (ob+off) ((((arr.toList.drop (o2+n*e'.size)).take e'.size).drop off).take sh.ct.size) (by simp only[aV,aM]at hln⊢;omega) Ew;have IK:(execOp a.eval o).run P w=.ok (.value v) w:=by simp only[execOp,ho,hv,Instr.loadAt,Instr.sureAddr,Sem.run_bind,Sem.run_pure,Result.andThen_ok];show((loadVar T ⟨b2,ob+off,none⟩).run P w).andThen _=_;rw[fD];rfl
  obtain⟨f1,f2',f3,hf,_,r2,_⟩:=fZ.mid off sh.ct.size;have Dc:f2'=[]:=by cases f2' with|nil=>rfl|cons y ys=>simp at hf
  subst Dc;refine⟨_,_,_,.inl IK,⟨g,hg.quiet o.dst ?_⟩,hk⟩;exact⟨_,gD,r2⟩
 cases hk;cases hk;cases hk;cases hk
theorem GI {fps:aw fM}{f:fM}(h:fps[n]?=some f): fps.flatten=(fps.take n).flatten++f++(fps.drop (n+1)).flatten/\∀f',(fps.set n f').flatten=(fps.take n).flatten++f'++(fps.drop (n+1)).flatten:=by
 have hn:n<fps.length:=(ay.1 h).1;have hf:fps[n]=f:=by rw[al hn]at h;simpa using h
 constructor
 ·conv=>lhs;rw[<-cR n fps,bW hn,hf]
  simp
 intro f';rw[List.set_eq_take_append_cons_drop,aH hn];simp
theorem alI {w:World}{xs:aw e.D}(h:gA hw w (.sl e) [v] xs fp0){x:e.D}(hx:xs[n]?=some x): ∃b o0 cap arr T fr f1 fx f3,v=.slice (some ⟨b,o0,none⟩) xs.length cap/\w.heap[b]?=some (.cells arr T fr)/\gA hw w e ((arr.toList.drop (o0+n*e.size)).take e.size) x fx/\ fp0=b::(f1++fx++f3)/\ajd hw w e v xs n (b::(f1++f3)):=by obtain⟨u,hu,h⟩:=h;simp at hu;subst hu;have NL:n<xs.length:=(ay.1 hx).1;rcases h with⟨⟨_,rfl⟩,rfl,rfl⟩|⟨b,o0,cap,arr,T,fr,fps,rfl,hb,uR,hs,hc,hh,rfl,hl,hr⟩;simp at hx;have SI:fps[n]?=some fps[n]:=al (by omega);have J1:=GI SI;refine⟨b,o0,cap,arr,T,fr,(fps.take n).flatten,fps[n],(fps.drop (n+1)).flatten,rfl,hb,hr n x _ hx SI,by rw[J1.1],?_⟩;refine⟨b,o0,cap,arr,T,fr,fps.set n [],rfl,hb,uR,hs,hc,hh,by rw[J1.2];simp,by simp[hl],NL,by rw[bJ];simp[hl,NL],λi x' f hi Dd hf=>?_⟩;rw[aE (cl hi)]at hf;exact hr i x' f Dd hf
theorem XO {E:Env}(hE:kG P E.ty){o:Oper}(ho:o.op=.load T p)(hg:fb C g st a w []){K:AS->aB R}{x:e.D}(hT:ko E.ty T=some sh)(xm:iV (dz C g st w) (a.eval p) (.D3 fl e x i off) [])(hk:AK o sh fl e i off st K=some r):ox P C o a w K r:=by
 unfold AK at hk;split at hk;rename_i ep rt t;obtain⟨_,b,ob,hv,_,_,IJ⟩:=xm;obtain⟨_,n,o0,len,cap,uX,hrt,NL,hob⟩:=IJ rt t rfl;split at hk;rename_i t' e' ys jh;split at hk;rename_i he;subst he;split at hk;rename_i hc;obtain⟨rfl,rfl,NJ⟩:=hc;simp only at hk;cases GP:idx ys i with
 |none=>rw[GP]at hk;simp[aa]at hk
 |some y=>
  rw[GP]at hk;simp only[aa]at hk;have hyn:ys[n]?=some y:=by rw[uX]at GP;exact GP
  obtain⟨v0,f2,Ul,EA,_,sM⟩:=hg.alX rt (by simp) jh;obtain⟨b2,o2,abV,arr,T',fr,f1,fx,f3,QT,lQ,QP,F5,asl⟩:=alI Ul.1 hyn;have h1:=(Ul.2 t' rfl).2;have h2:g.hdr t'=.slice (some ⟨b,o0,none⟩) len cap:=hrt;have SH:v0=g.hdr t':=h1;rw[h2,QT]at SH;simp only[Value.slice.injEq,bu,Addr.mk.injEq]at SH;obtain⟨⟨rfl,rfl,_⟩,_⟩:=SH;have lQ:w.heap[b2]?=some (.cells arr T' fr):=lQ;have hln:((arr.toList.drop (o2+n*e'.size)).take e'.size).length=e'.size:=gA.length QP;have Ew:∀j u,((arr.toList.drop (o2+n*e'.size)).take e'.size)[j]?=some u->w.cell? ⟨b2,ob+0+j,none⟩=some u:=by intro j u hu;rw[eG]at hu;split at hu;rw[bR,cP]at hu;rw[qN lQ,hob,dX];exact hu;cases hu
  obtain⟨v,fD,gD⟩:=Az (hE T sh hT) b2 (ob+0) ((arr.toList.drop (o2+n*e'.size)).take e'.size) (by rw[hln,NJ]) Ew;have IK:(execOp a.eval o).run P w=.ok (.value v) w:=by simp only[execOp,ho,hv,Instr.loadAt,Instr.sureAddr,Sem.run_bind,Sem.run_pure,Result.andThen_ok];show((loadVar T ⟨b2,ob+0,none⟩).run P w).andThen _=_;rw[fD];rfl
  rw[F5]at EA;have yJ:=dN.1 EA;have hn3:=yJ.2;rw[aR]at hn3;have m1:=aS.1 hn3;have m2:=aS.1 m1.2.1;obtain⟨g',qb⟩:=sM (.sl (.gB (some t') i (some st.ep)) e' ys) (b2::(f1++f3)) fx v (.val sh.agg (cellsOf e' (.own none) y)) (λc' hle XV It AY=>by refine⟨λq hq=>?_,⟨n,uX,by rw[XV,It];exact asl⟩,λt ht=>?_⟩;simp at hq;subst hq;refine⟨by rw[AY];exact bc _,λ_=>?_⟩;refine gA.rep (hw:=c'.hw) (fp:=f2) (λb o ho=> .inr ho) ?_;rw[XV,It];exact Ul.1;simp at ht;subst ht;have h0:=Ul.2 t' rfl;exact⟨(hle.hdr t' h0.1).1,by rw[(hle.hdr t' h0.1).2];exact h0.2⟩) (by refine dN.2 ⟨λhm=>yJ.1 (by rcases aA.1 hm with k|k<;>simp[k]),aS.2 ⟨m1.1,m2.2.1,?_⟩⟩;rintro c hc d hd rfl;exact m1.2.2 c hc c (bz _ hd) rfl) m2.1 (λc hc=>by rw[F5];rcases bU.1 hc with rfl|hc;exact⟨by simp,λhm=>yJ.1 (by simp[hm])⟩;rcases aA.1 hc with hc|hc;exact⟨by simp[hc],λhm=>m1.2.2 c hc c (bH _ hm) rfl⟩;exact⟨by simp[hc],λhm=>m2.2.2 c hm c hc rfl⟩) (λc hc=>by rw[F5];simp[hc]) ⟨_,gD,Cj (c:=dz C g st w) QP⟩;exact⟨_,_,_,.inl IK,fb.Fv qb o.dst,hk⟩
 cases hk;cases hk;cases hk;cases hk
theorem ahJ {E:Env}(hE:kG P E.ty){an:An}{o:Oper}(ho:o.op=.load T p)(h:qe C st a w){K:AS->aB R}(hk:rf E an o T p st K=some r):ox P C o a w K r:=by
 unfold rf at hk;obtain⟨g,hg⟩:=id h;split at hk;rename_i sh s off hT hp;have xm:=hg.rd p;rw[hp]at xm;have xm:=DM xm;split at hk;rename_i cs lj;have lj:st.boxes[s]?=some (some cs):=by rw[eU]at lj;cases hq:st.boxes[s]? with|none=>rw[hq]at lj;simp at lj|some q=>rw[hq]at lj;simp at lj;rw[lj]
 split at hk;rename_i iO;obtain⟨arr,T',fr,fp,lQ,uR,hr,hn,yJ,hl,J2,J5⟩:=hg.boxes s cs lj;have hlen:=hr.length;have aqf:=TM lQ off sh.ct.size;obtain⟨v,fD,gD⟩:=Az (hE T sh hT) (g.β s) off ((arr.toList.drop off).take sh.ct.size) (by simp at hlen⊢;omega) aqf;have IK:(execOp a.eval o).run P w=.ok (.value v) w:=by simp only[execOp,ho,xm,Instr.loadAt,Instr.sureAddr,Sem.run_bind,Sem.run_pure,Result.andThen_ok];show((loadVar T ⟨g.β s,off,none⟩).run P w).andThen _=_;rw[fD];rfl
 split at hk;rename_i d hd;split at hk;obtain⟨g',qb⟩:=hg.aor s lj off sh.ct.size iO (gg:=sh.agg) (v:=v) (λax8 T2 fr2 h2=>by rw[lQ]at h2;simp at h2;obtain⟨rfl,_⟩:=h2;exact gD);refine⟨_,_,_,.inl IK,?_,hk⟩;rw[hd];exact fb.Fv qb (some d);refine⟨_,_,_,.inl IK,?_,hk⟩;rw[hd];refine⟨g,hg.quiet (some d) ⟨_,gD,?_⟩⟩;obtain⟨f1,f2,f3,_,_,r2,_⟩:=hr.mid off sh.ct.size;exact bV.borrow (c:=dz C g st w) (.box s) off r2;cases hk;cases hk;cases hk;rename_i sh fl e x i off hT hp;have xm:=hg.rd p;rw[hp]at xm;have xm:=fH xm;split at hk;exact XO hE ho hg hT xm hk;split at hk;rename_i qT;split at hk;rename_i iO
 have key:∃b o cs,a.eval p=.pointer (some ⟨b,o+off,none⟩)/\(∀j v,cs[j]?=some v->w.cell? ⟨b,o+j,none⟩=some v)/\bV (dz C g st w) cs (cellsOf e fl.bare x) []/\
  ∀ep rt t,fl=.loc ep (some (rt,t))->(dz C g st w).iss t/\(∃n o0 len cap:Nat,i=n/\(dz C g st w).hdr t=.slice (some ⟨b,o0,none⟩) len cap/\n<len/\o=o0+n*e.size)/\∀j v,cs[j]?=some v->(dz C g st w).S b (o+j):=by
  cases fl with
  |own t=>exact xm.elim
  |nest _ _ _ _ _ _=>exact xm.elim
  |part _ _ _ _=>exact xm.elim
  |gB _ _ _=>exact xm.elim
  |arg _=>
   obtain⟨_,b,o,hv,cs,hc,hr⟩:=xm
   exact⟨b,o,cs,hv,λj v hj=>(hc j v hj).2,HI hr,λ_ _ _ he=>by cases he⟩
  |loc ep pv=>
   obtain⟨_,b,o,hv,h2,h3,h4⟩:=xm
   have AY:ep=st.ep:=by simpa[sO.live]using qT
   obtain⟨cs,hc,hr⟩:=h3 AY
   exact⟨b,o,cs,hv,λj v hj=>(hc j v hj).2,by simp only[sO.bare];rw[AY];exact H9 hr,λep' rt t he=>by cases he;obtain⟨k1,k2⟩:=h4 rt t rfl;exact⟨k1,k2,λj v hj=>(hc j v hj).1⟩⟩
 obtain⟨b,ob,cs,hv,hc,fZ,Gf⟩:=key;have hlen:=fZ.length;rw[mD]at hlen;obtain⟨v,fD,gD⟩:=Az (hE T sh hT) b (ob+off) ((cs.drop off).take sh.ct.size) (by simp;omega) (λj u hu=>by rw[eG]at hu;split at hu;rw[bR]at hu;have:=hc _ _ hu;rwa[<-gv]at this;cases hu);have IK:(execOp a.eval o).run P w=.ok (.value v) w:=by simp only[execOp,ho,hv,Instr.loadAt,Instr.sureAddr,Sem.run_bind,Sem.run_pure,Result.andThen_ok];show((loadVar T ⟨b,ob+off,none⟩).run P w).andThen _=_;rw[fD];rfl
 obtain⟨f1,f2,f3,hf,_,r2,_⟩:=fZ.mid off sh.ct.size;have Dc:f2=[]:=by cases f2 with|nil=>rfl|cons y ys=>simp at hf
 subst Dc;refine⟨_,_,_,.inl IK,⟨g,hg.quiet o.dst ?_⟩,hk⟩;refine⟨_,gD,?_⟩;unfold alv;split;rename_i d _ _ _ _;cases an.nest.contains d with|false=>exact r2|true=>simp only[ah];obtain⟨k1,⟨n,o0,len,cap,hi,hh,NL,OQ⟩,hS⟩:=Gf _ _ _ rfl;refine Rt (b:=b) (n:=n) (o0:=o0) (len:=len) (cap:=cap) k1 hi hh NL _ off r2 (λj u hu=>?_);rw[eG]at hu;split at hu;rw[bR]at hu;rw[<-OQ];exact⟨hS _ _ hu,hc _ _ hu⟩;cases hu
 exact r2;cases hk;exact aet hE ho hg hT xm hk;cases hk
theorem I7 (h:off+vs.length<=cs.length):(fu cs off vs).length=cs.length:=by simp[fu];omega
theorem Jb {E:Env}(hE:kG P E.ty){o:Oper}{x:Operand}(hd:o.dst=none)(ho:o.op=.store T p x){K:AS->aB R}{s:Nat}{cj:AS}{g':Gh}(hT:ko E.ty T=some sh)(xm:a.eval p=.pointer (some ⟨g'.β s,off,none⟩))(qb:fb C g' cj a w [(a.eval x,.val gg vs)])(lj:(nth cj.boxes s).getD none=some cs)(hlen:vs.length=sh.ct.size)(akT:vs.all AC.Lz=true)(iO:off+sh.ct.size<=cs.length)(hk:K (cj.fO s (some (fu cs off vs)))=some r):ox P C o a w K r:=by
 have lj:cj.boxes[s]?=some (some cs):=by rw[eU]at lj;cases hq:cj.boxes[s]? with|none=>rw[hq]at lj;simp at lj|some q=>rw[hq]at lj;simp at lj;rw[lj]
 obtain⟨arr,T',fr,fp,lQ,uR,hr,hn,yJ,hl,J2,J5⟩:=qb.boxes s cs lj;obtain⟨fh,⟨us,gD,hrh⟩,SJ,Zk⟩:=qb.hands 0 _ _ rfl;have h1:=hrh.oL akT;have hul:=hrh.length;have hal:=hr.length;have aoZ:off+us.length<=arr.size:=by simp at hal;omega
 have Zp:=FG (P:=P) (w:=w) (hE T sh hT) (g'.β s) off gD (by omega) h1 lQ uR aoZ;have fD:(execOp a.eval o).run P w=.ok .skip (wO w (g'.β s) (fL arr off us) T' fr):=by simp only[execOp,ho,xm,Instr.storeAt,Instr.sureAddr,Sem.run_bind,Sem.run_pure,Result.andThen_ok];show((storeVar T ⟨g'.β s,off,none⟩ (a.eval x)).run P w).andThen _=_;rw[Zp];rfl
 have HX:=nU lQ;obtain⟨f1,f2,f3,rfl,r1,r2,r3⟩:=hr.mid off us.length;have En:=hn;rw[aR]at En;have n1:=aS.1 En;have n2:=aS.1 n1.2.1;have S0:∀b∈fh,b≠g'.β s/\b∉f1++f2++f3:=by intro b hb;have Uj:=Zk b hb;refine⟨λe=>?_,λhm=>?_⟩;rw[e,J2]at Uj;cases Uj;rw[hl b hm]at Uj;cases Uj
 have ap8:Fr (λb=>eQ (g'.fE b)\/b=g'.β s) w (wO w (g'.β s) (fL arr off us) T' fr):=⟨rfl,rfl,rfl,by rw[nu];exact bc _,λb _ hb=>ou (λe=>hb (.inr e))⟩
 have axH:∀t,(if t=s then g'.β s else g'.β t)=g'.β t:=by intro t;split<;>simp_all
 have hle:(dz C g' cj w).Le ⟨g'.hw,λt=>if t=s then g'.β s else g'.β t,C.A,g'.hdr,oA cj,cj.ep,ku cj,wO w (g'.β s) (fL arr off us) T' fr⟩:=by
  refine⟨rfl,λ_ ht=>⟨ht,rfl⟩,λk b o u hA hu=>?_,bc _,λt ht=>⟨ht,axH t⟩,λ_ b o u ho hu=>⟨ho,?_⟩⟩;have Eo:b≠g'.β s:=by rintro rfl;exact qb.Re J2 k o hA
  rw[World.cell?_of_block (a:=⟨b,o,none⟩) (ou Eo)];exact hu;have Eo:b≠g'.β s:=by rintro rfl;have OQ:o<g'.hw (g'.β s):=ho;rw[J5]at OQ;omega
  rw[World.cell?_of_block (a:=⟨b,o,none⟩) (ou Eo)];exact hu
 have vj:∀b,b≠g'.β s->(wO w (g'.β s) (fL arr off us) T' fr).heap[b]?=w.heap[b]?:=λb hb=>ou hb;have fZ:bV ⟨g'.hw,λt=>if t=s then g'.β s else g'.β t,C.A,g'.hdr,oA cj,cj.ep,ku cj,wO w (g'.β s) (fL arr off us) T' fr⟩ (fL arr off us).toList (fu cs off vs) (f1++fh++f3):=by
  rw[yk us arr off aoZ];have e2:fu cs off vs=cs.take off++vs++cs.drop (off+us.length):=by simp only[fu];rw[hul]
  rw[e2];refine((r1.mono hle (λb hb=>⟨vj b (λe=>yJ (by rw[<-e];simp[hb])),rfl⟩)).append (hrh.mono hle (λb hb=>⟨vj b (S0 b hb).1,rfl⟩))).append (r3.mono hle (λb hb=>⟨vj b (λe=>yJ (by rw[<-e];simp[hb])),rfl⟩))
 have aqj:(f1++fh++f3).Nodup:=by rw[aR];refine aS.2 ⟨n1.1,aS.2 ⟨SJ,n2.2.1,?_⟩,?_⟩;rintro b hb c hc rfl;exact(S0 b hb).2 (by simp[hc]);rintro b hb c hc rfl;rcases aA.1 hc with hc|hc;exact(S0 b hc).2 (by simp[hb]);exact n1.2.2 b hb b (bz _ hc) rfl
 obtain⟨g2,_,Jw⟩:=qb.abN s (bnew:=g'.β s) (hw':=g'.hw) (.inl ⟨rfl,J2⟩) ap8 (zB HX) (λj hj=>uR j (by rwa[jD]at hj)) (by rw[nu];exact HX) J5
  (λ_ _ _ _ _=>rfl) (λb o u ho hu=>hle.ain rfl b o u ho hu) fZ aqj
  (by intro hm;simp only[aA]at hm
      rcases hm with(hm|hm)|hm
      ·exact yJ (by simp[hm])
      ·exact(S0 _ hm).1 rfl
      ·exact yJ (by simp[hm]))
  (by intro b hm;rw[nu];simp only[aA]at hm
      rcases hm with(hm|hm)|hm
      ·exact⟨(qb.im b _ (hl b (by simp[hm]))).1,.inr (.inl (hl b (by simp[hm])))⟩
      ·exact⟨(qb.im b _ (Zk b hm)).1,.inl (by rw[Zk b hm];rfl)⟩
      ·exact⟨(qb.im b _ (hl b (by simp[hm]))).1,.inr (.inl (hl b (by simp[hm])))⟩)
 refine⟨undef,_,_,.inr ⟨rfl,fD⟩,?_,hk⟩;rw[hd];exact⟨g2,Jw⟩
theorem Ty {E:Env}(hE:kG P E.ty){o:Oper}{x:Operand}(hd:o.dst=none)(ho:o.op=.store T p x)(h:qe C st a w){K:AS->aB R}{s:Nat}{cj:AS}(hT:ko E.ty T=some sh)(hp:st.rd p=.val false [.ptr s off])(vm:st.take x=(.val gg vs,cj))(lj:(nth cj.boxes s).getD none=some cs)(hlen:vs.length=sh.ct.size)(akT:vs.all AC.Lz=true)(iO:off+sh.ct.size<=cs.length)(hk:K (cj.fO s (some (fu cs off vs)))=some r):ox P C o a w K r:=by obtain⟨g,hg⟩:=h;have xm:=hg.rd p;rw[hp]at xm;have xm:=DM xm;obtain⟨g',⟨Mo,_⟩,qb⟩:=hg.amM x;rw[vm]at qb;exact Jb hE hd ho hT (by rw[Mo];exact xm) qb lj hlen akT iO hk
end Go.Dn
