import Derived.Test.YtnmppgnbjfdffaaGreatDnOps1
/- Part 2: loads and stores. -/
namespace Go.Dn
open Go.RowKit
variable {P:Program} {C:Ctx} {st:AS} {a:Act} {w:World} {R:Type} {r:R}
variable {gg:Bool} {e:CT} {fl:oP} {g:Gh} {i:Int} {n off:Nat} {hw:Nat->Nat} {p:Operand} {c:RC} {sh:Shape} {T:TypeId} {v:Value} {cs vs:aw AC} {fp fp0:ff}
theorem bA.mid {vs:ir}{xs:aw AC}(h:bA c vs xs fp)(off n:Nat): ∃f1 f2 f3,fp=f1++f2++f3/\bA c (vs.take off) (xs.take off) f1/\bA c ((vs.drop off).take n) ((xs.drop off).take n) f2/\bA c (vs.drop (off+n)) (xs.drop (off+n)) f3:=by obtain⟨f1,g1,rfl,r1,r2⟩:=h.split off;obtain⟨f2,f3,rfl,r3,r4⟩:=r2.split n;rw[eC,eC]at r4;exact⟨f1,f2,f3,by simp,r1,r3,r4⟩
theorem L1 {w:World}{b:Nat}{arr:Array Value}{fr:Nat×Nat}(hb:w.heap[b]?=some (.cells arr T fr))(off n:Nat): ∀j v,((arr.toList.drop off).take n)[j]?=some v->w.cell? ⟨b,off+j,none⟩=some v:=by intro j v hv;rw[dz]at hv;split at hv;rw[bJ,cf]at hv;rw[nv hb];exact hv;cases hv
theorem yB {s:Nat}(h:fP c v (.val false [.ptr s off]) fp):v=.pointer (some ⟨c.β s,off,none⟩):=(ee h).1
theorem dH.adW (h:dH C g st a w [])(s:Nat)(hb:st.boxes[s]?=some (some cs))(off n:Nat)(gu:off+n<=cs.length)(eY:∀arr T fr,w.heap[g.β s]?=some (.cells arr T fr)->Cut gg v ((arr.toList.drop off).take n)): ∃g',dH C g' (st.eu s (some (dT cs off (aQ st.ep ((cs.drop off).take n))))) a w [(v,.val gg ((cs.drop off).take n))]:=by
 obtain⟨arr,T,fr,fp,jK,qv,hr,hn,tZ,hl,Eo,Er⟩:=h.boxes s cs hb;obtain⟨f1,f2,f3,rfl,r1,r2,r3⟩:=hr.mid off n;have AY:=hn;rw[aJ]at AY;have n1:=aH.1 AY;have n2:=aH.1 n1.2.1;have wF:s<st.boxes.length:=(aE.1 hb).1;let g':Gh:={g with dX:=λb=>if b∈f2 then some (.hand 0) else g.dX b}
 let bI:AS:=st.eu s (some (dT cs off (aQ st.ep ((cs.drop off).take n))));have hle:(cH C g st w).Le (cH C g' bI w):=MH rfl (λ_ _ _ _ _ hv=>hv) (λ_ _=>rfl) (λ_ _ _ ho hu=>⟨ho,hu⟩);have Sw:∀b y,g.dX b=some y->b∉f2->g'.dX b=some y:=by intro b y hb hm;show(if b∈f2 then _ else _)=_;rw[aG hm];exact hb
 have Ic:∀b y,y≠ .box s->g.dX b=some y->b∉f2:=λb y hy hb hm=>hy (by have:=hl b (by simp[hm]);rw[hb]at this;simpa using this);refine⟨g',h.step (λy=>y≠ .box s) hle h.defers h.size (by show(st.eu s _).boxes.length=st.slots.length;rw[jI,aB];exact h.bsize) h.frame ?_ (λb y hy hb=>⟨Sw b y hb (Ic b y hy hb),rfl,rfl⟩) ?_ ?_ ?_ (.inl ⟨by simp,rfl⟩)⟩;intro b y hy;have Ps:(if b∈f2 then some (jy.hand 0) else g.dX b)=some y:=hy;by_cases hm:b∈f2;exact h.fQ b _ (hl b (by simp[hm]));rw[aG hm]at Ps;exact h.fQ b y Ps;exact λi av hi=> .inl ⟨by simp,hi,rfl⟩;intro t oS ht;have SA:(st.boxes.set s (some (dT cs off (aQ st.ep ((cs.drop off).take n)))))[t]?=some (some oS):=by rw[<-jI];exact ht
 by_cases rb:t=s;subst rb;rw[bm]at SA;simp only[bM,wF]at SA;simp at SA;subst SA;have Gp:dT cs off (aQ st.ep ((cs.drop off).take n))=cs.take off++aQ st.ep ((cs.drop off).take n)++cs.drop (off+n):=by simp only[dT,aQ,cp,aX,aN];rw[gJ (by omega)]
 refine .inr ⟨arr,T,fr,f1++f3,jK,qv,?_,?_,?_,?_,?_,Er⟩;have e:arr.toList=arr.toList.take off++(arr.toList.drop off).take n++arr.toList.drop (off+n):=by rw[<-eC,aJ,bU,bU]
 have hm1:=r1.mono hle (λb _=>⟨rfl,rfl⟩);have hm2:=(r2.aQ).mono hle (by simp);have hm3:=r3.mono hle (λb _=>⟨rfl,rfl⟩);have hm4:=(hm1.append hm2).append hm3;rw[<-e,bt]at hm4;have e3:cs.take off++aQ (cH C g st w).ep ((cs.drop off).take n)++cs.drop (off+n)=dT cs off (aQ st.ep ((cs.drop off).take n)):=Gp.symm;rw[e3]at hm4;exact hm4;refine aH.2 ⟨n1.1,n2.2.1,?_⟩;rintro b hb c hc rfl;exact n1.2.2 b hb b (ba _ hc) rfl;intro hm;have hm':g.β t∈f1++f3:=hm;refine tZ ?_;rcases ax.1 hm' with k|k;exact bn _ (bn _ k);exact ba _ k;intro b hb;refine Sw b _ (hl b (by simp at hb⊢;rcases hb with hb|hb<;>simp[hb])) ?_;intro hm;rcases ax.1 hb with hb|hb;exact n1.2.2 b hb b (bn _ hm) rfl;exact n2.2.2 b hm b hb rfl;refine Sw _ _ Eo (λhm=>tZ ?_);have hm':g.β t∈f2:=hm;exact bn _ (ba _ hm');rw[aP (cL rb)]at SA;exact .inl ⟨by simpa using rb,SA,rfl⟩;intro k u av hk;cases k with
 |zero=>simp only[cn,aZ,Prod.mk.injEq]at hk;obtain⟨rfl,rfl⟩:=hk;refine .inr ⟨f2,⟨_,eY arr T fr jK,r2.mono hle (λb _=>⟨rfl,rfl⟩)⟩,n2.1,λb hb=>?_⟩;show(if b∈f2 then _ else _)=_;rw[aF hb]
 |succ k=>simp at hk
theorem gy.header {xs:aw e.D}(r:gy c v (.sl fl e xs) fp):∃o n k,v=.slice o n k/\n=xs.length:=by
 cases fl with
 |own t=>obtain⟨⟨u,hu,h⟩,_⟩:=r;simp at hu;subst hu;rcases h with⟨⟨_,rfl⟩,rfl,_⟩|⟨b,o0,cap,arr,T,fr,fps,rfl,_⟩;exact⟨_,_,_,rfl,rfl⟩;exact⟨_,_,_,rfl,rfl⟩
 |arg _=>obtain⟨_,u,hu,h⟩:=r;simp at hu;subst hu;rcases h with⟨⟨ad,rfl⟩,rfl⟩|⟨b,o,cap,rfl,_⟩;exact⟨_,_,_,rfl,rfl⟩;exact⟨_,_,_,rfl,rfl⟩
 |loc ep pv=>exact r.2.2.1
 |nest _ _ _ _ _ _=>exact r.2.2.1
 |part _ _ _ _=>exact r.2.2.1
 |eX _ _ _=>obtain⟨_,⟨k,_,b,o0,cap,arr,T,fr,fps,rfl,_⟩,_⟩:=r;exact⟨_,_,_,rfl,rfl⟩
theorem Kd {b o0 len cap t:Nat}{rt:jU}{e:CT}(hi:c.iss t)(hn:i=n)(hh:c.hdr t=.slice (some ⟨b,o0,none⟩) len cap)(hl:n<len):∀(cs:aw AC)(p:Nat){vs:ir},bA c vs cs []->
 (∀j u,vs[j]?=some u->c.S b (o0+n*e.size+(p+j))/\c.w.cell? ⟨b,o0+n*e.size+(p+j),none⟩=some u)->bA c vs (OF c.ep rt t e i p cs) []
 |[],_,vs,h,_=>by cases vs<;>exact h
 |x::cs,p,vs,h,hc=>by
  cases vs with
  |nil=>exact h.elim
  |cons v vs=>
   obtain⟨f1,f2,hf,h1,h2⟩:=h;have e1:f1=[]:=by have:=hf.symm;simp at this;exact this.1
   have e2:f2=[]:=by have:=hf.symm;simp at this;exact this.2
   subst e1;subst e2;have sg:=Kd (rt:=rt) (e:=e) hi hn hh hl cs (p+1) h2 (λj u hu=>by have:=hc (j+1) u (by simpa using hu);rwa[show p+(j+1)=p+1+j by omega]at this);have hv:=hc 0 v rfl;cases x with|sl fl e' xs=>refine⟨[],[],rfl,⟨rfl,aS _,?_,λ_=>⟨hi,n,b,o0,len,cap,hn,hh,hl,?_,?_⟩⟩,sg⟩;exact gy.header h1;have:=hv.1;rwa[dK]at this;have:=hv.2;rwa[dK]at this|int _ _=>exact⟨[],[],rfl,h1,sg⟩|bool _=>exact⟨[],[],rfl,h1,sg⟩|str _=>exact⟨[],[],rfl,h1,sg⟩|jm=>exact⟨[],[],rfl,h1,sg⟩|ptr _ _=>exact⟨[],[],rfl,h1,sg⟩|yP _ _ _ _ _=>exact⟨[],[],rfl,h1,sg⟩|fn _=>exact⟨[],[],rfl,h1,sg⟩|un=>exact⟨[],[],rfl,h1,sg⟩|bot=>exact⟨[],[],rfl,h1,sg⟩
theorem agf {w:World}{xs:aw e.D}(h:eV hw w (.sl e) [v] xs fp0){x:e.D}(hx:xs[n]?=some x): ∃b o0 cap arr T fr fx,v=.slice (some ⟨b,o0,none⟩) xs.length cap/\w.heap[b]?=some (.cells arr T fr)/\eV hw w e ((arr.toList.drop (o0+n*e.size)).take e.size) x fx:=by obtain⟨u,hu,h⟩:=h;simp at hu;subst hu;have Hw:n<xs.length:=(aE.1 hx).1;rcases h with⟨⟨_,rfl⟩,rfl,rfl⟩|⟨b,o0,cap,arr,T,fr,fps,rfl,hb,qv,hs,hc,hh,rfl,hl,hr⟩;simp at hx;have Qt:fps[n]?=some fps[n]:=al (by omega);exact⟨b,o0,cap,arr,T,fr,_,rfl,hb,hr n x _ hx Qt⟩
theorem U3 {E:Env}(hE:iY P E.ty){o:Oper}(ho:o.op=.load T p)(hg:dH C g st a w []){K:AS->ay R}{x:e.D}(hT:iP E.ty T=some sh)(sA:gy (cH C g st w) (a.eval p) (.yP fl e x i off) [])(hk:AB o sh fl e i off st K=some r):lH P C o a w K r:=by
 unfold AB at hk;split at hk;rename_i ep rt t;obtain⟨_,b,ob,hv,_,_,De⟩:=sA;obtain⟨_,n,o0,len,cap,rP,hrt,Hw,hob⟩:=De rt t rfl;split at hk;rename_i t' e' ys gG;split at hk;rename_i he;subst he;split at hk;rename_i hc;obtain⟨rfl,gu⟩:=hc;simp only at hk;cases BJ:idx ys i with
 |none=>rw[BJ]at hk;simp[aa]at hk
 |some y=>
  rw[BJ]at hk;simp only[aa]at hk;have hyn:ys[n]?=some y:=by rw[rP]at BJ;exact BJ
  obtain⟨v0,f2,hh,gC,_,_,_⟩:=hg.OT rt gG;obtain⟨b2,o2,SZ,arr,T',fr,fx,JM,jK,JI⟩:=agf gC hyn;have h1:=hh t' rfl;have h2:g.hdr t'=.slice (some ⟨b,o0,none⟩) len cap:=hrt;rw[h2,JM]at h1;simp only[Value.slice.injEq,aZ,Addr.mk.injEq]at h1;obtain⟨⟨rfl,rfl,_⟩,_⟩:=h1;have hln:((arr.toList.drop (o2+n*e'.size)).take e'.size).length=e'.size:=eV.length JI;have EZ:iR w (cH C g st w).S e' ((arr.toList.drop (o2+n*e'.size)).take e'.size) y:=eV.rep (λb o ho=> .inr ho) JI;have eI:bA (cH C g st w) ((arr.toList.drop (o2+n*e'.size)).take e'.size) (cellsOf e' (.loc st.ep none) y) []:=CR (c:=cH C g st w) EZ;have zt:∀j u,((((arr.toList.drop (o2+n*e'.size)).take e'.size).drop off).take sh.ct.size)[j]?=some u->w.cell? ⟨b2,ob+off+j,none⟩=some u:=by intro j u hu;rw[dz]at hu;split at hu;rw[bJ,dz]at hu;split at hu;rw[bJ,cf]at hu;rw[nv jK,hob,fu];exact hu;cases hu;cases hu
  obtain⟨v,dV,eY⟩:=vG (hE T sh hT) b2 (ob+off) ((((arr.toList.drop (o2+n*e'.size)).take e'.size).drop off).take sh.ct.size) (by simp only[aX,aN]at hln⊢;omega) zt;have Df:(execOp a.eval o).run P w=.ok (.value v) w:=by simp only[execOp,ho,hv,Instr.loadAt,Instr.sureAddr,Sem.run_bind,Sem.run_pure,Result.andThen_ok];show((loadVar T ⟨b2,ob+off,none⟩).run P w).andThen _=_;rw[dV];rfl
  obtain⟨f1,f2',f3,hf,_,r2,_⟩:=eI.mid off sh.ct.size;have Aa:f2'=[]:=by cases f2' with|nil=>rfl|cons y ys=>simp at hf
  subst Aa;refine⟨_,_,_,.inl Df,⟨g,hg.quiet o.dst ?_⟩,hk⟩;exact⟨_,eY,r2⟩
 cases hk;cases hk;cases hk;cases hk
theorem BB {fps:aw ff}{f:ff}(h:fps[n]?=some f): fps.flatten=(fps.take n).flatten++f++(fps.drop (n+1)).flatten/\∀f',(fps.set n f').flatten=(fps.take n).flatten++f'++(fps.drop (n+1)).flatten:=by
 have hn:n<fps.length:=(aE.1 h).1;have hf:fps[n]=f:=by rw[al hn]at h;simpa using h
 constructor
 ·conv=>lhs;rw[<-bU n fps,bK hn,hf]
  simp
 intro f';rw[List.set_eq_take_append_cons_drop,aF hn];simp
theorem abw {w:World}{xs:aw e.D}(h:eV hw w (.sl e) [v] xs fp0){x:e.D}(hx:xs[n]?=some x): ∃b o0 cap arr T fr f1 fx f3,v=.slice (some ⟨b,o0,none⟩) xs.length cap/\w.heap[b]?=some (.cells arr T fr)/\eV hw w e ((arr.toList.drop (o0+n*e.size)).take e.size) x fx/\ fp0=b::(f1++fx++f3)/\Zw hw w e v xs n (b::(f1++f3)):=by obtain⟨u,hu,h⟩:=h;simp at hu;subst hu;have Hw:n<xs.length:=(aE.1 hx).1;rcases h with⟨⟨_,rfl⟩,rfl,rfl⟩|⟨b,o0,cap,arr,T,fr,fps,rfl,hb,qv,hs,hc,hh,rfl,hl,hr⟩;simp at hx;have Qt:fps[n]?=some fps[n]:=al (by omega);have En:=BB Qt;refine⟨b,o0,cap,arr,T,fr,(fps.take n).flatten,fps[n],(fps.drop (n+1)).flatten,rfl,hb,hr n x _ hx Qt,by rw[En.1],?_⟩;refine⟨b,o0,cap,arr,T,fr,fps.set n [],rfl,hb,qv,hs,hc,hh,by rw[En.2];simp,by simp[hl],Hw,by rw[bm];simp[hl,Hw],λi x' f hi yT hf=>?_⟩;rw[aP (cL hi)]at hf;exact hr i x' f yT hf
theorem Pf {E:Env}(hE:iY P E.ty){o:Oper}(ho:o.op=.load T p)(hg:dH C g st a w []){K:AS->ay R}{x:e.D}(hT:iP E.ty T=some sh)(sA:gy (cH C g st w) (a.eval p) (.yP fl e x i off) [])(hk:vP o sh fl e i off st K=some r):lH P C o a w K r:=by
 unfold vP at hk;split at hk;rename_i ep rt t;obtain⟨_,b,ob,hv,_,_,De⟩:=sA;obtain⟨_,n,o0,len,cap,rP,hrt,Hw,hob⟩:=De rt t rfl;split at hk;rename_i t' e' ys gG;split at hk;rename_i he;subst he;split at hk;rename_i hc;obtain⟨rfl,rfl,Hu⟩:=hc;simp only at hk;cases BJ:idx ys i with
 |none=>rw[BJ]at hk;simp[aa]at hk
 |some y=>
  rw[BJ]at hk;simp only[aa]at hk;have hyn:ys[n]?=some y:=by rw[rP]at BJ;exact BJ
  obtain⟨v0,f2,Mr,Bg,_,oO⟩:=hg.abJ rt (by simp) gG;obtain⟨b2,o2,SZ,arr,T',fr,f1,fx,f3,JM,jK,JI,AU,ahi⟩:=abw Mr.1 hyn;have h1:=(Mr.2 t' rfl).2;have h2:g.hdr t'=.slice (some ⟨b,o0,none⟩) len cap:=hrt;have K9:v0=g.hdr t':=h1;rw[h2,JM]at K9;simp only[Value.slice.injEq,aZ,Addr.mk.injEq]at K9;obtain⟨⟨rfl,rfl,_⟩,_⟩:=K9;have jK:w.heap[b2]?=some (.cells arr T' fr):=jK;have hln:((arr.toList.drop (o2+n*e'.size)).take e'.size).length=e'.size:=eV.length JI;have zt:∀j u,((arr.toList.drop (o2+n*e'.size)).take e'.size)[j]?=some u->w.cell? ⟨b2,ob+0+j,none⟩=some u:=by intro j u hu;rw[dz]at hu;split at hu;rw[bJ,cf]at hu;rw[nv jK,hob,dK];exact hu;cases hu
  obtain⟨v,dV,eY⟩:=vG (hE T sh hT) b2 (ob+0) ((arr.toList.drop (o2+n*e'.size)).take e'.size) (by rw[hln,Hu]) zt;have Df:(execOp a.eval o).run P w=.ok (.value v) w:=by simp only[execOp,ho,hv,Instr.loadAt,Instr.sureAddr,Sem.run_bind,Sem.run_pure,Result.andThen_ok];show((loadVar T ⟨b2,ob+0,none⟩).run P w).andThen _=_;rw[dV];rfl
  rw[AU]at Bg;have tZ:=cZ.1 Bg;have hn3:=tZ.2;rw[aJ]at hn3;have m1:=aH.1 hn3;have m2:=aH.1 m1.2.1;obtain⟨g',mO⟩:=oO (.sl (.eX (some t') i (some st.ep)) e' ys) (b2::(f1++f3)) fx v (.val sh.agg (cellsOf e' (.own none) y)) (λc' hle Pq C4 vY=>by refine⟨λq hq=>?_,⟨n,rP,by rw[Pq,C4];exact ahi⟩,λt ht=>?_⟩;simp at hq;subst hq;refine⟨by rw[vY];exact aS _,λ_=>?_⟩;refine eV.rep (hw:=c'.hw) (fp:=f2) (λb o ho=> .inr ho) ?_;rw[Pq,C4];exact Mr.1;simp at ht;subst ht;have h0:=Mr.2 t' rfl;exact⟨(hle.hdr t' h0.1).1,by rw[(hle.hdr t' h0.1).2];exact h0.2⟩) (by refine cZ.2 ⟨λhm=>tZ.1 (by rcases ax.1 hm with k|k<;>simp[k]),aH.2 ⟨m1.1,m2.2.1,?_⟩⟩;rintro c hc d hd rfl;exact m1.2.2 c hc c (ba _ hd) rfl) m2.1 (λc hc=>by rw[AU];rcases cg.1 hc with rfl|hc;exact⟨by simp,λhm=>tZ.1 (by simp[hm])⟩;rcases ax.1 hc with hc|hc;exact⟨by simp[hc],λhm=>m1.2.2 c hc c (bn _ hm) rfl⟩;exact⟨by simp[hc],λhm=>m2.2.2 c hm c hc rfl⟩) (λc hc=>by rw[AU];simp[hc]) ⟨_,eY,xu (c:=cH C g st w) JI⟩;exact⟨_,_,_,.inl Df,dH.Av mO o.dst,hk⟩
 cases hk;cases hk;cases hk;cases hk
theorem XO {E:Env}(hE:iY P E.ty){an:An}{o:Oper}(ho:o.op=.load T p)(h:mP C st a w){K:AS->ay R}(hk:nI E an o T p st K=some r):lH P C o a w K r:=by
 unfold nI at hk;obtain⟨g,hg⟩:=id h;split at hk;rename_i sh s off hT hp;have sA:=hg.rd p;rw[hp]at sA;have sA:=yB sA;split at hk;rename_i cs jt;have jt:st.boxes[s]?=some (some cs):=by rw[dF]at jt;cases hq:st.boxes[s]? with|none=>rw[hq]at jt;simp at jt|some q=>rw[hq]at jt;simp at jt;rw[jt]
 split at hk;rename_i gu;obtain⟨arr,T',fr,fp,jK,qv,hr,hn,tZ,hl,Eo,Er⟩:=hg.boxes s cs jt;have hlen:=hr.length;have afq:=L1 jK off sh.ct.size;obtain⟨v,dV,eY⟩:=vG (hE T sh hT) (g.β s) off ((arr.toList.drop off).take sh.ct.size) (by simp at hlen⊢;omega) afq;have Df:(execOp a.eval o).run P w=.ok (.value v) w:=by simp only[execOp,ho,sA,Instr.loadAt,Instr.sureAddr,Sem.run_bind,Sem.run_pure,Result.andThen_ok];show((loadVar T ⟨g.β s,off,none⟩).run P w).andThen _=_;rw[dV];rfl
 split at hk;rename_i d hd;split at hk;obtain⟨g',mO⟩:=hg.adW s jt off sh.ct.size gu (gg:=sh.agg) (v:=v) (λamo T2 fr2 h2=>by rw[jK]at h2;simp at h2;obtain⟨rfl,_⟩:=h2;exact eY);refine⟨_,_,_,.inl Df,?_,hk⟩;rw[hd];exact dH.Av mO (some d);refine⟨_,_,_,.inl Df,?_,hk⟩;rw[hd];refine⟨g,hg.quiet (some d) ⟨_,eY,?_⟩⟩;obtain⟨f1,f2,f3,_,_,r2,_⟩:=hr.mid off sh.ct.size;exact bA.borrow (c:=cH C g st w) (.box s) off r2;cases hk;cases hk;cases hk;rename_i sh fl e x i off hT hp;have sA:=hg.rd p;rw[hp]at sA;have sA:=ee sA;split at hk;exact Pf hE ho hg hT sA hk;split at hk;rename_i nA;split at hk;rename_i gu
 have key:∃b o cs,a.eval p=.pointer (some ⟨b,o+off,none⟩)/\(∀j v,cs[j]?=some v->w.cell? ⟨b,o+j,none⟩=some v)/\bA (cH C g st w) cs (cellsOf e fl.bare x) []/\
  ∀ep rt t,fl=.loc ep (some (rt,t))->(cH C g st w).iss t/\(∃n o0 len cap:Nat,i=n/\(cH C g st w).hdr t=.slice (some ⟨b,o0,none⟩) len cap/\n<len/\o=o0+n*e.size)/\∀j v,cs[j]?=some v->(cH C g st w).S b (o+j):=by
  cases fl with
  |own t=>exact sA.elim
  |nest _ _ _ _ _ _=>exact sA.elim
  |part _ _ _ _=>exact sA.elim
  |eX _ _ _=>exact sA.elim
  |arg _=>
   obtain⟨_,b,o,hv,cs,hc,hr⟩:=sA
   exact⟨b,o,cs,hv,λj v hj=>(hc j v hj).2,Cv hr,λ_ _ _ he=>by cases he⟩
  |loc ep pv=>
   obtain⟨_,b,o,hv,h2,h3,h4⟩:=sA
   have vY:ep=st.ep:=by simpa[oP.live]using nA
   obtain⟨cs,hc,hr⟩:=h3 vY
   exact⟨b,o,cs,hv,λj v hj=>(hc j v hj).2,by simp only[oP.bare];rw[vY];exact CR hr,λep' rt t he=>by cases he;obtain⟨k1,k2⟩:=h4 rt t rfl;exact⟨k1,k2,λj v hj=>(hc j v hj).1⟩⟩
 obtain⟨b,ob,cs,hv,hc,eI,CJ⟩:=key;have hlen:=eI.length;rw[kc]at hlen;obtain⟨v,dV,eY⟩:=vG (hE T sh hT) b (ob+off) ((cs.drop off).take sh.ct.size) (by simp;omega) (λj u hu=>by rw[dz]at hu;split at hu;rw[bJ]at hu;have:=hc _ _ hu;rwa[<-fu]at this;cases hu);have Df:(execOp a.eval o).run P w=.ok (.value v) w:=by simp only[execOp,ho,hv,Instr.loadAt,Instr.sureAddr,Sem.run_bind,Sem.run_pure,Result.andThen_ok];show((loadVar T ⟨b,ob+off,none⟩).run P w).andThen _=_;rw[dV];rfl
 obtain⟨f1,f2,f3,hf,_,r2,_⟩:=eI.mid off sh.ct.size;have Aa:f2=[]:=by cases f2 with|nil=>rfl|cons y ys=>simp at hf
 subst Aa;refine⟨_,_,_,.inl Df,⟨g,hg.quiet o.dst ?_⟩,hk⟩;refine⟨_,eY,?_⟩;unfold abn;split;rename_i d _ _ _ _;cases an.nest.contains d with|false=>exact r2|true=>simp only[ah];obtain⟨k1,⟨n,o0,len,cap,hi,hh,Hw,Ie⟩,hS⟩:=CJ _ _ _ rfl;refine Kd (b:=b) (n:=n) (o0:=o0) (len:=len) (cap:=cap) k1 hi hh Hw _ off r2 (λj u hu=>?_);rw[dz]at hu;split at hu;rw[bJ]at hu;rw[<-Ie];exact⟨hS _ _ hu,hc _ _ hu⟩;cases hu
 exact r2;cases hk;exact U3 hE ho hg hT sA hk;cases hk
theorem Dw (h:off+vs.length<=cs.length):(dT cs off vs).length=cs.length:=by simp[dT];omega
theorem Dy {E:Env}(hE:iY P E.ty){o:Oper}{x:Operand}(hd:o.dst=none)(ho:o.op=.store T p x){K:AS->ay R}{s:Nat}{bI:AS}{g':Gh}(hT:iP E.ty T=some sh)(sA:a.eval p=.pointer (some ⟨g'.β s,off,none⟩))(mO:dH C g' bI a w [(a.eval x,.val gg vs)])(jt:(nth bI.boxes s).getD none=some cs)(hlen:vs.length=sh.ct.size)(aaQ:vs.all AC.FI=true)(gu:off+sh.ct.size<=cs.length)(hk:K (bI.eu s (some (dT cs off vs)))=some r):lH P C o a w K r:=by
 have jt:bI.boxes[s]?=some (some cs):=by rw[dF]at jt;cases hq:bI.boxes[s]? with|none=>rw[hq]at jt;simp at jt|some q=>rw[hq]at jt;simp at jt;rw[jt]
 obtain⟨arr,T',fr,fp,jK,qv,hr,hn,tZ,hl,Eo,Er⟩:=mO.boxes s cs jt;obtain⟨fh,⟨us,eY,Sz⟩,La,Qw⟩:=mO.hands 0 _ _ rfl;have h1:=Sz.lV aaQ;have hul:=Sz.length;have hal:=hr.length;have aep:off+us.length<=arr.size:=by simp at hal;omega
 have QB:=AE (P:=P) (w:=w) (hE T sh hT) (g'.β s) off eY (by omega) h1 jK qv aep;have dV:(execOp a.eval o).run P w=.ok .skip (rX w (g'.β s) (eh arr off us) T' fr):=by simp only[execOp,ho,sA,Instr.storeAt,Instr.sureAddr,Sem.run_bind,Sem.run_pure,Result.andThen_ok];show((storeVar T ⟨g'.β s,off,none⟩ (a.eval x)).run P w).andThen _=_;rw[QB];rfl
 have Dc:=la jK;obtain⟨f1,f2,f3,rfl,r1,r2,r3⟩:=hr.mid off us.length;have AY:=hn;rw[aJ]at AY;have n1:=aH.1 AY;have n2:=aH.1 n1.2.1;have Ll:∀b∈fh,b≠g'.β s/\b∉f1++f2++f3:=by intro b hb;have Mq:=Qw b hb;refine⟨λe=>?_,λhm=>?_⟩;rw[e,Eo]at Mq;cases Mq;rw[hl b hm]at Mq;cases Mq
 have afi:Fr (λb=>dD (g'.dX b)\/b=g'.β s) w (rX w (g'.β s) (eh arr off us) T' fr):=⟨rfl,rfl,rfl,by rw[kM];exact aS _,λb _ hb=>lB (λe=>hb (.inr e))⟩
 have alU:∀t,(if t=s then g'.β s else g'.β t)=g'.β t:=by intro t;split<;>simp_all
 have hle:(cH C g' bI w).Le ⟨g'.hw,λt=>if t=s then g'.β s else g'.β t,C.A,g'.hdr,lJ bI,bI.ep,iQ bI,rX w (g'.β s) (eh arr off us) T' fr⟩:=by
  refine⟨rfl,λ_ ht=>⟨ht,rfl⟩,λk b o u hA hu=>?_,aS _,λt ht=>⟨ht,alU t⟩,λ_ b o u ho hu=>⟨ho,?_⟩⟩;have Ad:b≠g'.β s:=by rintro rfl;exact mO.J0 Eo k o hA
  rw[World.cell?_of_block (a:=⟨b,o,none⟩) (lB Ad)];exact hu;have Ad:b≠g'.β s:=by rintro rfl;have Ie:o<g'.hw (g'.β s):=ho;rw[Er]at Ie;omega
  rw[World.cell?_of_block (a:=⟨b,o,none⟩) (lB Ad)];exact hu
 have qC:∀b,b≠g'.β s->(rX w (g'.β s) (eh arr off us) T' fr).heap[b]?=w.heap[b]?:=λb hb=>lB hb;have eI:bA ⟨g'.hw,λt=>if t=s then g'.β s else g'.β t,C.A,g'.hdr,lJ bI,bI.ep,iQ bI,rX w (g'.β s) (eh arr off us) T' fr⟩ (eh arr off us).toList (dT cs off vs) (f1++fh++f3):=by
  rw[tq us arr off aep];have e2:dT cs off vs=cs.take off++vs++cs.drop (off+us.length):=by simp only[dT];rw[hul]
  rw[e2];refine((r1.mono hle (λb hb=>⟨qC b (λe=>tZ (by rw[<-e];simp[hb])),rfl⟩)).append (Sz.mono hle (λb hb=>⟨qC b (Ll b hb).1,rfl⟩))).append (r3.mono hle (λb hb=>⟨qC b (λe=>tZ (by rw[<-e];simp[hb])),rfl⟩))
 have afu:(f1++fh++f3).Nodup:=by rw[aJ];refine aH.2 ⟨n1.1,aH.2 ⟨La,n2.2.1,?_⟩,?_⟩;rintro b hb c hc rfl;exact(Ll b hb).2 (by simp[hc]);rintro b hb c hc rfl;rcases ax.1 hc with hc|hc;exact(Ll b hc).2 (by simp[hb]);exact n1.2.2 b hb b (ba _ hc) rfl
 obtain⟨g2,_,DW⟩:=mO.SS s (bnew:=g'.β s) (hw':=g'.hw) (.inl ⟨rfl,Eo⟩) afi (uE Dc) (λj hj=>qv j (by rwa[ik]at hj)) (by rw[kM];exact Dc) Er
  (λ_ _ _ _ _=>rfl) (λb o u ho hu=>hle.Yo rfl b o u ho hu) eI afu
  (by intro hm;simp only[ax]at hm
      rcases hm with(hm|hm)|hm
      ·exact tZ (by simp[hm])
      ·exact(Ll _ hm).1 rfl
      ·exact tZ (by simp[hm]))
  (by intro b hm;rw[kM];simp only[ax]at hm
      rcases hm with(hm|hm)|hm
      ·exact⟨(mO.fQ b _ (hl b (by simp[hm]))).1,.inr (.inl (hl b (by simp[hm])))⟩
      ·exact⟨(mO.fQ b _ (Qw b hm)).1,.inl (by rw[Qw b hm];rfl)⟩
      ·exact⟨(mO.fQ b _ (hl b (by simp[hm]))).1,.inr (.inl (hl b (by simp[hm])))⟩)
 refine⟨undef,_,_,.inr ⟨rfl,dV⟩,?_,hk⟩;rw[hd];exact⟨g2,DW⟩
theorem LN {E:Env}(hE:iY P E.ty){o:Oper}{x:Operand}(hd:o.dst=none)(ho:o.op=.store T p x)(h:mP C st a w){K:AS->ay R}{s:Nat}{bI:AS}(hT:iP E.ty T=some sh)(hp:st.rd p=.val false [.ptr s off])(qD:st.take x=(.val gg vs,bI))(jt:(nth bI.boxes s).getD none=some cs)(hlen:vs.length=sh.ct.size)(aaQ:vs.all AC.FI=true)(gu:off+sh.ct.size<=cs.length)(hk:K (bI.eu s (some (dT cs off vs)))=some r):lH P C o a w K r:=by obtain⟨g,hg⟩:=h;have sA:=hg.rd p;rw[hp]at sA;have sA:=yB sA;obtain⟨g',⟨Gq,_⟩,mO⟩:=hg.aco x;rw[qD]at mO;exact Dy hE hd ho hT (by rw[Gq];exact sA) mO jt hlen aaQ gu hk
end Go.Dn
