import Derived.Test.YtehfjiddofkdnaaGreatDnOps1
/- Part 2: loads and stores. -/
open Option renaming none->W,some->I
namespace Go.Dn
open Go.RowKit
variable {P:Program} {C:Ctx} {st:AS} {a:Act} {w:World} {R:Type} {r:R}
variable {gg:Bool} {e:CT} {N:BH} {g:Gh} {Y:Nat} {hw:Nat->Nat} {p:Operand} {c:RC} {S:Shape} {T:TypeId} {X Q:Z AC} {fp M:gw}
theorem cv.mid {Q a}(h:cv c Q a fp)Y n: ∃f1 f2 f3,fp=f1++f2++f3/\cv c (Q.take Y) (a.take Y) f1/\cv c ((Q.drop Y).take n) ((a.drop Y).take n) f2/\cv c (Q.drop (Y+n)) (a.drop (Y+n)) f3:=by obtain⟨f1,g,rfl,d,e⟩:=h.split Y;obtain⟨f2,f3,rfl,f,b⟩:=e.split n;rw[fM,fM]at b;exact⟨f1,f2,f3,aD,d,f,b⟩
theorem ZI {w:World}{b a d}(e:w.heap[b]?=I (.cells a T d))Y n: ∀j v,((a.toList.drop Y).take n)[j]?=I v->w.cell? ⟨b,Y+j,W⟩=I v:=by intro j v c;rw[fA]at c;split at c;rw[cA,du]at c;rw[vi e];exact c;cases c
theorem Jo {v s}(h:iY c v (.val false [.ptr s Y]) fp):v=.pointer (I ⟨c.β s,Y,W⟩):=(gk h).1
theorem fL.asF (h:fL C g st a w [])s(d:st.boxes[s]?=I (I X))Y n(atw:Y+n<=X.length){v}(WO:∀f T E,w.heap[g.β s]?=I (.cells f T E)->Cut gg v ((f.toList.drop Y).take n)): ∃x,fL C x (st.gD s (I (fV X Y (bz st.ep ((X.drop Y).take n))))) a w [(v,.val gg ((X.drop Y).take n))]:=by
 obtain⟨f,T,E,fp,z,MY,hr,hn,A,L,M,V⟩:=h.boxes s X d;obtain⟨f1,f2,f3,rfl,r1,r2,r3⟩:=hr.mid Y n;have YJ:=hn;rw[aH]at YJ;have F:=aX.1 YJ;have Z:=aX.1 F.2.1;have S:s<st.boxes.length:=(aA.1 d).1;let x:Gh:={g with gb:=λb=>if b∈f2 then I (.hand 0) else g.gb b}
 let st':AS:=st.gD s (I (fV X Y (bz st.ep ((X.drop Y).take n))));have m:(dQ C g st w).Le (dQ C x st' w):=aay rfl (λ_ _ _ _ _ hv=>hv) (λ_ _=>rfl) (λ_ _ _ ho hu=>⟨ho,hu⟩);have o:∀b y,g.gb b=I y->b∉f2->x.gb b=I y:=by intro b y d j;show(if b∈f2 then _ else _)=_;rw[aK j];exact d
 have R:∀b y,y≠ .box s->g.gb b=I y->b∉f2:=λb y B d j=>B (by have:=L b (by simp[j]);rw[d]at this;simpa using this);refine⟨x,h.step (λy=>y≠ .box s) m h.defers h.size (by show(st.gD s _).boxes.length=st.slots.length;rw[nT,aC];exact h.bsize) h.frame ?_ (λb y B d=>⟨o b y d (R b y B d),rfl,rfl⟩) ?_ ?_ ?_ (.inl ⟨aD,rfl⟩)⟩;intro b y B;have D:(if b∈f2 then I (oN.hand 0) else g.gb b)=I y:=B;by_cases j:b∈f2;exact h.ju b _ (L b (by simp[j]));rw[aK j]at D;exact h.ju b y D;exact λi av hi=> .inl ⟨aD,hi,rfl⟩;intro t H ht;have l:(st.boxes.set s (I (fV X Y (bz st.ep ((X.drop Y).take n)))))[t]?=I (I H):=by rw[<-nT];exact ht
 by_cases r:t=s;subst r;rw[bX]at l;simp only[dm,S]at l;simp at l;subst l;have U:fV X Y (bz st.ep ((X.drop Y).take n))=X.take Y++bz st.ep ((X.drop Y).take n)++X.drop (Y+n):=by simp only[fV,bz,bt,bp,bA];rw[jF J]
 refine .inr ⟨f,T,E,f1++f3,z,MY,?_,?_,?_,?_,?_,V⟩;have e:f.toList=f.toList.take Y++(f.toList.drop Y).take n++f.toList.drop (Y+n):=by rw[<-fM,aH,cH,cH]
 have N:=r1.mono m (λb _=>⟨rfl,rfl⟩);have P:=(r2.bz).mono m aD;have Q:=r3.mono m (λb _=>⟨rfl,rfl⟩);have q:=(N.append P).append Q;rw[<-e,bm]at q;have e3:X.take Y++bz (dQ C g st w).ep ((X.drop Y).take n)++X.drop (Y+n)=fV X Y (bz st.ep ((X.drop Y).take n)):=U.symm;rw[e3]at q;exact q;refine aX.2 ⟨F.1,Z.2.1,?_⟩;rintro b d c hc rfl;exact F.2.2 b d b (bC _ hc) rfl;intro j;have p:g.β t∈f1++f3:=j;refine A ?_;rcases aB.1 p with k|k;exact bh _ (bh _ k);exact bC _ k;intro b d;refine o b _ (L b (by simp at d⊢;rcases d with d|d<;>simp[d])) ?_;intro j;rcases aB.1 d with d|d;exact F.2.2 b d b (bh _ j) rfl;exact Z.2.2 b j b d rfl;refine o _ _ M (λj=>A ?_);have p:g.β t∈f2:=j;exact bh _ (bC _ p);rw[aJ (cI r)]at l;exact .inl ⟨by simpa using r,l,rfl⟩;intro k u av K;cases k with
 |zero=>simp only[dy,bI,Prod.mk.injEq]at K;obtain⟨rfl,rfl⟩:=K;refine .inr ⟨f2,⟨_,WO f T E z,r2.mono m (λb _=>⟨rfl,rfl⟩)⟩,Z.1,λb d=>?_⟩;show(if b∈f2 then _ else _)=_;rw[aI d]
 |succ k=>simp at K
theorem kh.header {v i}(r:kh c v (.sl N e i) fp):∃o n k,v=.slice o n k/\n=i.length:=by
 cases N with
 |own t=>obtain⟨⟨u,d,h⟩,_⟩:=r;simp at d;subst d;rcases h with⟨⟨_,rfl⟩,rfl,_⟩|⟨b,l,a,f,T,j,g,rfl,_⟩;exact⟨_,_,_,rfl,rfl⟩;exact⟨_,_,_,rfl,rfl⟩
 |arg _=>obtain⟨_,u,d,h⟩:=r;simp at d;subst d;rcases h with⟨⟨m,rfl⟩,rfl⟩|⟨b,o,a,rfl,_⟩;exact⟨_,_,_,rfl,rfl⟩;exact⟨_,_,_,rfl,rfl⟩
 |loc p q=>exact r.2.2.1
 |nest _ _ _ _ _ _=>exact r.2.2.1
 |part _ _ _ _=>exact r.2.2.1
 |im _ _ _=>obtain⟨_,⟨k,_,b,l,a,f,T,j,g,rfl,_⟩,_⟩:=r;exact⟨_,_,_,rfl,rfl⟩
theorem Xt {b n o0 len cap t:Nat}{rt:sn}{e:CT}{i:Int}(k:c.iss t)(hn:i=n)(g:c.hdr t=.slice (I ⟨b,o0,W⟩) len cap)(l:n<len):∀(X:Z AC)(p:Nat){Q:oz},cv c Q X []->
 (∀j u,Q[j]?=I u->c.S b (o0+n*e.size+(p+j))/\c.w.cell? ⟨b,o0+n*e.size+(p+j),W⟩=I u)->cv c Q (acK c.ep rt t e i p X) []
 |[],_,Q,h,_=>by cases Q<;>exact h
 |x::X,p,Q,h,f=>by
  cases Q with
  |nil=>exact h.elim
  |cons v Q=>
   obtain⟨f1,f2,hf,d,r⟩:=h;have o:f1=[]:=by have:=hf.symm;simp at this;exact this.1
   have q:f2=[]:=by have:=hf.symm;simp at this;exact this.2
   subst o;subst q;have a:=Xt (rt:=rt) (e:=e) k hn g l X (p+1) r (λj u s=>by have:=f (j+1) u (by simpa using s);rwa[(J:p+(j+1)=p+1+j)]at this);have m:=f 0 v rfl;cases x with|sl N y z=>refine⟨[],[],rfl,⟨rfl,bq _,?_,λ_=>⟨k,n,b,o0,len,cap,hn,g,l,?_,?_⟩⟩,a⟩;exact kh.header d;have:=m.1;rwa[eY]at this;have:=m.2;rwa[eY]at this|int _ _=>exact⟨[],[],rfl,d,a⟩|bool _=>exact⟨[],[],rfl,d,a⟩|str _=>exact⟨[],[],rfl,d,a⟩|mP=>exact⟨[],[],rfl,d,a⟩|ptr _ _=>exact⟨[],[],rfl,d,a⟩|I7 _ _ _ _ _=>exact⟨[],[],rfl,d,a⟩|fn _=>exact⟨[],[],rfl,d,a⟩|un=>exact⟨[],[],rfl,d,a⟩|bot=>exact⟨[],[],rfl,d,a⟩
theorem atS {w v}{g:Z e.D}(h:gX hw w (.sl e) [v] g M){n x}(k:g[n]?=I x): ∃b f c a T i m,v=.slice (I ⟨b,f,W⟩) g.length c/\w.heap[b]?=I (.cells a T i)/\gX hw w e ((a.toList.drop (f+n*e.size)).take e.size) x m:=by obtain⟨u,l,h⟩:=h;simp at l;subst l;have p:n<g.length:=(aA.1 k).1;rcases h with⟨⟨_,rfl⟩,rfl,rfl⟩|⟨b,f,c,a,T,i,d,rfl,o,y,hs,r,s,rfl,t,q⟩;simp at k;have j:d[n]?=I d[n]:=ah J;exact⟨b,f,c,a,T,i,_,rfl,o,q n x _ k j⟩
theorem ajD {E:Env}(hE:mL P E.ty){o}(Q:o.op=.load T p)(hg:fL C g st a w []){K x i}(hT:lV E.ty T=I S)(X:kh (dQ C g st w) (a.eval p) (.I7 N e x i Y) [])(d:LQ o S N e i Y st K=I r):rD P C o a w K r:=by
 unfold LQ at d;split at d;rename_i ep rt t;obtain⟨_,b,ob,hv,_,_,auG⟩:=X;obtain⟨_,n,o0,len,A,L,hrt,hnl,R⟩:=auG rt t rfl;split at d;rename_i t' f ys J;split at d;rename_i he;subst he;split at d;rename_i hc;obtain⟨rfl,atw⟩:=hc;simp only at d;cases k:idx ys i with
 |none=>rw[k]at d;simp[U]at d
 |some y=>
  rw[k]at d;simp only[U]at d;have hyn:ys[n]?=I y:=by rw[L]at k;exact k
  obtain⟨v0,f2,hh,V,_,_,_⟩:=hg.acX rt J;obtain⟨z,s,ahm,h,T',fr,fx,hv0,D,q⟩:=atS V hyn;have B:=hh t' rfl;have h2:g.hdr t'=.slice (I ⟨b,o0,W⟩) len A:=hrt;rw[h2,hv0]at B;simp only[Value.slice.injEq,bI,Addr.mk.injEq]at B;obtain⟨⟨rfl,rfl,_⟩,_⟩:=B;have M:((h.toList.drop (s+n*f.size)).take f.size).length=f.size:=gX.length q;have aDM:mq w (dQ C g st w).S f ((h.toList.drop (s+n*f.size)).take f.size) y:=gX.rep (λb o Q=> .inr Q) q;have Z:cv (dQ C g st w) ((h.toList.drop (s+n*f.size)).take f.size) (cellsOf f (.loc st.ep W) y) []:=Of (c:=dQ C g st w) aDM;have F:∀j u,((((h.toList.drop (s+n*f.size)).take f.size).drop Y).take S.ct.size)[j]?=I u->w.cell? ⟨z,ob+Y+j,W⟩=I u:=by intro j u l;rw[fA]at l;split at l;rw[cA,fA]at l;split at l;rw[cA,du]at l;rw[vi D,R,ig];exact l;cases l;cases l
  obtain⟨v,MX,WO⟩:=F0 (hE T S hT) z (ob+Y) ((((h.toList.drop (s+n*f.size)).take f.size).drop Y).take S.ct.size) (by simp only[bp,bA]at M⊢;omega) F;have aDT:(execOp a.eval o).run P w=.ok (.value v) w:=by simp only[execOp,Q,hv,Instr.loadAt,Instr.sureAddr,Sem.run_bind,Sem.run_pure,Result.andThen_ok];show((loadVar T ⟨z,ob+Y,W⟩).run P w).andThen _=_;rw[MX];rfl
  obtain⟨f1,m,f3,hf,_,r2,_⟩:=Z.mid Y S.ct.size;have H:m=[]:=by cases m with|nil=>rfl|cons y ys=>simp at hf
  subst H;refine⟨_,_,_,.inl aDT,⟨g,hg.quiet o.dst ?_⟩,d⟩;exact⟨_,WO,r2⟩
 cases d;cases d;cases d;cases d
theorem MP {a:Z gw}{n f}(h:a[n]?=I f): a.flatten=(a.take n).flatten++f++(a.drop (n+1)).flatten/\∀b,(a.set n b).flatten=(a.take n).flatten++b++(a.drop (n+1)).flatten:=by
 have hn:n<a.length:=(aA.1 h).1;have hf:a[n]=f:=by rw[ah hn]at h;simpa using h
 constructor
 ·conv=>lhs;rw[<-cH n a,bZ hn,hf]
  simp
 intro b;rw[List.set_eq_take_append_cons_drop,aI hn];simp
theorem aqn {w v}{m:Z e.D}(h:gX hw w (.sl e) [v] m M){n x}(p:m[n]?=I x): ∃b l d c T o f1 r f3,v=.slice (I ⟨b,l,W⟩) m.length d/\w.heap[b]?=I (.cells c T o)/\gX hw w e ((c.toList.drop (l+n*e.size)).take e.size) x r/\ M=b::(f1++r++f3)/\aoA hw w e v m n (b::(f1++f3)):=by obtain⟨u,z,h⟩:=h;simp at z;subst z;have k:n<m.length:=(aA.1 p).1;rcases h with⟨⟨_,rfl⟩,rfl,rfl⟩|⟨b,l,d,c,T,o,a,rfl,s,E,hs,A,B,rfl,t,y⟩;simp at p;have g:a[n]?=I a[n]:=ah J;have j:=MP g;refine⟨b,l,d,c,T,o,(a.take n).flatten,a[n],(a.drop (n+1)).flatten,rfl,s,y n x _ p g,by rw[j.1],?_⟩;refine⟨b,l,d,c,T,o,a.set n [],rfl,s,E,hs,A,B,by rw[j.2];simp,by simp[t],k,by rw[bX];simp[t,k],λi F f C q hf=>?_⟩;rw[aJ (cI C)]at hf;exact y i F f q hf
theorem ado {E:Env}(hE:mL P E.ty){o}(ho:o.op=.load T p)(hg:fL C g st a w []){K x i}(hT:lV E.ty T=I S)(hpv:kh (dQ C g st w) (a.eval p) (.I7 N e x i Y) [])(h:Ge o S N e i Y st K=I r):rD P C o a w K r:=by
 unfold Ge at h;split at h;rename_i ep rt t;obtain⟨_,b,ob,hv,_,_,auG⟩:=hpv;obtain⟨_,n,o0,len,cap,R,hrt,hnl,hob⟩:=auG rt t rfl;split at h;rename_i J m ys atx;split at h;rename_i he;subst he;split at h;rename_i f;obtain⟨rfl,rfl,hct⟩:=f;simp only at h;cases s:idx ys i with
 |none=>rw[s]at h;simp[U]at h
 |some y=>
  rw[s]at h;simp only[U]at h;have hyn:ys[n]?=I y:=by rw[R]at s;exact s
  obtain⟨v0,f2,z,X,_,ahT⟩:=hg.aqC rt aD atx;obtain⟨L,o2,ahm,l,T',fr,f1,fx,f3,hv0,B,auB,D,aCQ⟩:=aqn z.1 hyn;have h1:=(z.2 J rfl).2;have h2:g.hdr J=.slice (I ⟨b,o0,W⟩) len cap:=hrt;have A:v0=g.hdr J:=h1;rw[h2,hv0]at A;simp only[Value.slice.injEq,bI,Addr.mk.injEq]at A;obtain⟨⟨rfl,rfl,_⟩,_⟩:=A;have B:w.heap[L]?=I (.cells l T' fr):=B;have hln:((l.toList.drop (o2+n*m.size)).take m.size).length=m.size:=gX.length auB;have aCd:∀j u,((l.toList.drop (o2+n*m.size)).take m.size)[j]?=I u->w.cell? ⟨L,ob+0+j,W⟩=I u:=by intro j u hu;rw[fA]at hu;split at hu;rw[cA,du]at hu;rw[vi B,hob,eY];exact hu;cases hu
  obtain⟨v,MX,WO⟩:=F0 (hE T S hT) L (ob+0) ((l.toList.drop (o2+n*m.size)).take m.size) (by rw[hln,hct]) aCd;have aDT:(execOp a.eval o).run P w=.ok (.value v) w:=by simp only[execOp,ho,hv,Instr.loadAt,Instr.sureAddr,Sem.run_bind,Sem.run_pure,Result.andThen_ok];show((loadVar T ⟨L,ob+0,W⟩).run P w).andThen _=_;rw[MX];rfl
  rw[D]at X;have H:=eo.1 X;have Z:=H.2;rw[aH]at Z;have m1:=aX.1 Z;have m2:=aX.1 m1.2.1;obtain⟨g',hg'⟩:=ahT (.sl (.im (I J) i (I st.ep)) m ys) (L::(f1++f3)) fx v (.val S.agg (cellsOf m (.own W) y)) (λc' V Q M hep=>by refine⟨λq hq=>?_,⟨n,R,by rw[Q,M];exact aCQ⟩,λt ht=>?_⟩;simp at hq;subst hq;refine⟨by rw[hep];exact bq _,λ_=>?_⟩;refine gX.rep (hw:=c'.hw) (fp:=f2) (λb o ho=> .inr ho) ?_;rw[Q,M];exact z.1;simp at ht;subst ht;have h0:=z.2 J rfl;exact⟨(V.hdr J h0.1).1,by rw[(V.hdr J h0.1).2];exact h0.2⟩) (by refine eo.2 ⟨λF=>H.1 (by rcases aB.1 F with k|k<;>simp[k]),aX.2 ⟨m1.1,m2.2.1,?_⟩⟩;rintro c f d hd rfl;exact m1.2.2 c f c (bC _ hd) rfl) m2.1 (λc f=>by rw[D];rcases bW.1 f with rfl|f;exact⟨aD,λF=>H.1 (by simp[F])⟩;rcases aB.1 f with f|f;exact⟨by simp[f],λF=>m1.2.2 c f c (bh _ F) rfl⟩;exact⟨by simp[f],λF=>m2.2.2 c F c f rfl⟩) (λc f=>by rw[D];simp[f]) ⟨_,WO,Cg (c:=dQ C g st w) auB⟩;exact⟨_,_,_,.inl aDT,fL.Lx hg' o.dst,h⟩
 cases h;cases h;cases h;cases h
theorem amO {E}(hE:mL P E.ty){an o}(ho:o.op=.load T p)(h:ub C st a w){K}(l:vD E an o T p st K=I r):rD P C o a w K r:=by
 unfold vD at l;obtain⟨g,B⟩:=id h;split at l;rename_i S s Y H hp;have f:=B.rd p;rw[hp]at f;have f:=Jo f;split at l;rename_i X k;have k:st.boxes[s]?=I (I X):=by rw[fJ]at k;cases hq:st.boxes[s]? with|none=>rw[hq]at k;simp at k|some q=>rw[hq]at k;simp at k;rw[k]
 split at l;rename_i M;obtain⟨arr,T',fr,fp,J,MY,F,hn,hnb,hl,hl0,hw0⟩:=B.boxes s X k;have z:=F.length;have aA9:=ZI J Y S.ct.size;obtain⟨v,MX,WO⟩:=F0 (hE T S H) (g.β s) Y ((arr.toList.drop Y).take S.ct.size) (by simp at z⊢;omega) aA9;have A:(execOp a.eval o).run P w=.ok (.value v) w:=by simp only[execOp,ho,f,Instr.loadAt,Instr.sureAddr,Sem.run_bind,Sem.run_pure,Result.andThen_ok];show((loadVar T ⟨g.β s,Y,W⟩).run P w).andThen _=_;rw[MX];rfl
 split at l;rename_i d hd;split at l;obtain⟨g',hg'⟩:=B.asF s k Y S.ct.size M (gg:=S.agg) (v:=v) (λaBu T2 fr2 Z=>by rw[J]at Z;simp at Z;obtain⟨rfl,_⟩:=Z;exact WO);refine⟨_,_,_,.inl A,?_,l⟩;rw[hd];exact fL.Lx hg' (I d);refine⟨_,_,_,.inl A,?_,l⟩;rw[hd];refine⟨g,B.quiet (I d) ⟨_,WO,?_⟩⟩;obtain⟨f1,f2,f3,_,_,V,_⟩:=F.mid Y S.ct.size;exact cv.borrow (c:=dQ C g st w) (.box s) Y V;cases l;cases l;cases l;rename_i S N e x i Y H hp;have f:=B.rd p;rw[hp]at f;have f:=gk f;split at l;exact ado hE ho B H f l;split at l;rename_i aC8;split at l;rename_i M
 have key:∃b o X,a.eval p=.pointer (I ⟨b,o+Y,W⟩)/\(∀j v,X[j]?=I v->w.cell? ⟨b,o+j,W⟩=I v)/\cv (dQ C g st w) X (cellsOf e N.bare x) []/\
  ∀ep rt t,N=.loc ep (I (rt,t))->(dQ C g st w).iss t/\(∃n o0 len cap:Nat,i=n/\(dQ C g st w).hdr t=.slice (I ⟨b,o0,W⟩) len cap/\n<len/\o=o0+n*e.size)/\∀j v,X[j]?=I v->(dQ C g st w).S b (o+j):=by
  cases N with
  |own t=>exact f.elim
  |nest _ _ _ _ _ _=>exact f.elim
  |part _ _ _ _=>exact f.elim
  |im _ _ _=>exact f.elim
  |arg _=>
   obtain⟨_,b,o,U,X,D,F⟩:=f
   exact⟨b,o,X,U,λj v Q=>(D j v Q).2,NU F,λ_ _ _ he=>by cases he⟩
  |loc ep pv=>
   obtain⟨_,b,o,U,Z,h3,h4⟩:=f
   have L:ep=st.ep:=by simpa[BH.live]using aC8
   obtain⟨X,D,F⟩:=h3 L
   exact⟨b,o,X,U,λj v Q=>(D j v Q).2,by simp only[BH.bare];rw[L];exact Of F,λep' rt t he=>by cases he;obtain⟨k1,k2⟩:=h4 rt t rfl;exact⟨k1,k2,λj v Q=>(D j v Q).1⟩⟩
 obtain⟨b,ob,X,U,D,R,hpl⟩:=key;have z:=R.length;rw[oP]at z;obtain⟨v,MX,WO⟩:=F0 (hE T S H) b (ob+Y) ((X.drop Y).take S.ct.size) (by simp;omega) (λj u m=>by rw[fA]at m;split at m;rw[cA]at m;have:=D _ _ m;rwa[<-ig]at this;cases m);have A:(execOp a.eval o).run P w=.ok (.value v) w:=by simp only[execOp,ho,U,Instr.loadAt,Instr.sureAddr,Sem.run_bind,Sem.run_pure,Result.andThen_ok];show((loadVar T ⟨b,ob+Y,W⟩).run P w).andThen _=_;rw[MX];rfl
 obtain⟨f1,f2,f3,hf,_,V,_⟩:=R.mid Y S.ct.size;have hf2:f2=[]:=by cases f2 with|nil=>rfl|cons y ys=>simp at hf
 subst hf2;refine⟨_,_,_,.inl A,⟨g,B.quiet o.dst ?_⟩,l⟩;refine⟨_,WO,?_⟩;unfold aqb;split;rename_i d _ _ _ _;cases an.nest.contains d with|false=>exact V|true=>simp only[ae];obtain⟨k1,⟨n,o0,len,cap,hi,hh,hnl,ho'⟩,hS⟩:=hpl _ _ _ rfl;refine Xt (b:=b) (n:=n) (o0:=o0) (len:=len) (cap:=cap) k1 hi hh hnl _ Y V (λj u m=>?_);rw[fA]at m;split at m;rw[cA]at m;rw[<-ho'];exact⟨hS _ _ m,D _ _ m⟩;cases m
 exact V;cases l;exact ajD hE ho B H f l;cases l
theorem Pe (h:Y+Q.length<=X.length):(fV X Y Q).length=X.length:=by simp[fV];omega
theorem Pg {E:Env}(hE:mL P E.ty){o x}(hd:o.dst=W)(R:o.op=.store T p x){K s f d}(hT:lV E.ty T=I S)(hpv:a.eval p=.pointer (I ⟨d.β s,Y,W⟩))(m:fL C d f a w [(a.eval x,.val gg Q)])(i:(nth f.boxes s).getD W=I X)(hlen:Q.length=S.ct.size)(aBj:Q.all AC.RK=true)(atw:Y+S.ct.size<=X.length)(hk:K (f.gD s (I (fV X Y Q)))=I r):rD P C o a w K r:=by
 have i:f.boxes[s]?=I (I X):=by rw[fJ]at i;cases hq:f.boxes[s]? with|none=>rw[hq]at i;simp at i|some q=>rw[hq]at i;simp at i;rw[i]
 obtain⟨h,U,V,fp,Z,MY,hr,hn,B,hl,H,hw0⟩:=m.boxes s X i;obtain⟨fh,⟨n,WO,N⟩,hnh,L⟩:=m.hands 0 _ _ rfl;have h1:=N.rQ aBj;have hul:=N.length;have hal:=hr.length;have aCA:Y+n.length<=h.size:=by simp at hal;omega
 have apA:=LR (P:=P) (w:=w) (hE T S hT) (d.β s) Y WO J h1 Z MY aCA;have MX:(execOp a.eval o).run P w=.ok .skip (BZ w (d.β s) (gv h Y n) U V):=by simp only[execOp,R,hpv,Instr.storeAt,Instr.sureAddr,Sem.run_bind,Sem.run_pure,Result.andThen_ok];show((storeVar T ⟨d.β s,Y,W⟩ (a.eval x)).run P w).andThen _=_;rw[apA];rfl
 have hbs:=qB Z;obtain⟨f1,f2,f3,rfl,r1,r2,r3⟩:=hr.mid Y n.length;have YJ:=hn;rw[aH]at YJ;have n1:=aX.1 YJ;have n2:=aX.1 n1.2.1;have v:∀b∈fh,b≠d.β s/\b∉f1++f2++f3:=by intro b l;have y:=L b l;refine⟨λe=>?_,λg=>?_⟩;rw[e,H]at y;cases y;rw[hl b g]at y;cases y
 have aA3:Fr (λb=>fH (d.gb b)\/b=d.β s) w (BZ w (d.β s) (gv h Y n) U V):=⟨rfl,rfl,rfl,by rw[qa];exact bq _,λb _ l=>rm (λe=>l (.inr e))⟩
 have aBl:∀t,(if t=s then d.β s else d.β t)=d.β t:=by intro t;split<;>simp_all
 have z:(dQ C d f w).Le ⟨d.hw,λt=>if t=s then d.β s else d.β t,C.A,d.hdr,rE f,f.ep,mn f,BZ w (d.β s) (gv h Y n) U V⟩:=by
  refine⟨rfl,λ_ ht=>⟨ht,rfl⟩,λk b o u hA hu=>?_,bq _,λt ht=>⟨ht,aBl t⟩,λ_ b o u R hu=>⟨R,?_⟩⟩;have M:b≠d.β s:=by rintro rfl;exact m.Xh H k o hA
  rw[World.cell?_of_block (a:=⟨b,o,W⟩) (rm M)];exact hu;have M:b≠d.β s:=by rintro rfl;have ho':o<d.hw (d.β s):=R;rw[hw0]at ho';omega
  rw[World.cell?_of_block (a:=⟨b,o,W⟩) (rm M)];exact hu
 have F:∀b,b≠d.β s->(BZ w (d.β s) (gv h Y n) U V).heap[b]?=w.heap[b]?:=λb l=>rm l;have aeB:cv ⟨d.hw,λt=>if t=s then d.β s else d.β t,C.A,d.hdr,rE f,f.ep,mn f,BZ w (d.β s) (gv h Y n) U V⟩ (gv h Y n).toList (fV X Y Q) (f1++fh++f3):=by
  rw[Dk n h Y aCA];have e2:fV X Y Q=X.take Y++Q++X.drop (Y+n.length):=by simp only[fV];rw[hul]
  rw[e2];refine((r1.mono z (λb l=>⟨F b (λe=>B (by rw[<-e];simp[l])),rfl⟩)).append (N.mono z (λb l=>⟨F b (v b l).1,rfl⟩))).append (r3.mono z (λb l=>⟨F b (λe=>B (by rw[<-e];simp[l])),rfl⟩))
 have aBg:(f1++fh++f3).Nodup:=by rw[aH];refine aX.2 ⟨n1.1,aX.2 ⟨hnh,n2.2.1,?_⟩,?_⟩;rintro b l c D rfl;exact(v b l).2 (by simp[D]);rintro b l c D rfl;rcases aB.1 D with D|D;exact(v b D).2 (by simp[l]);exact n1.2.2 b l b (bC _ D) rfl
 obtain⟨g2,_,hg2⟩:=m.ahe s (bnew:=d.β s) (hw':=d.hw) (.inl ⟨rfl,H⟩) aA3 (EU hbs) (λj hj=>MY j (by rwa[lr]at hj)) (by rw[qa];exact hbs) hw0
  (λ_ _ _ _ _=>rfl) (λb o u R hu=>z.anv rfl b o u R hu) aeB aBg
  (by intro g;simp only[aB]at g
      rcases g with(g|g)|g
      ·exact B (by simp[g])
      ·exact(v _ g).1 rfl
      ·exact B (by simp[g]))
  (by intro b g;rw[qa];simp only[aB]at g
      rcases g with(g|g)|g
      ·exact⟨(m.ju b _ (hl b (by simp[g]))).1,.inr (.inl (hl b (by simp[g])))⟩
      ·exact⟨(m.ju b _ (L b g)).1,.inl (by rw[L b g];rfl)⟩
      ·exact⟨(m.ju b _ (hl b (by simp[g]))).1,.inr (.inl (hl b (by simp[g])))⟩)
 refine⟨undef,_,_,.inr ⟨rfl,MX⟩,?_,hk⟩;rw[hd];exact⟨g2,hg2⟩
theorem Zq {E:Env}(n:mL P E.ty){o x}(t:o.dst=W)(v:o.op=.store T p x)(h:ub C st a w){K s c}(q:lV E.ty T=I S)(y:st.rd p=.val false [.ptr s Y])(k:st.take x=(.val gg Q,c))(f:(nth c.boxes s).getD W=I X)(e:Q.length=S.ct.size)(j:Q.all AC.RK=true)(i:Y+S.ct.size<=X.length)(u:K (c.gD s (I (fV X Y Q)))=I r):rD P C o a w K r:=by obtain⟨g,m⟩:=h;have b:=m.rd p;rw[y]at b;have b:=Jo b;obtain⟨z,⟨l,_⟩,d⟩:=m.aq5 x;rw[k]at d;exact Pg n t v q (by rw[l];exact b) d f e j i u
end Go.Dn
