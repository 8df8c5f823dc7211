import Derived.Test.YtbebkmajekhclaaGreatDnOps1
/- Part 2: loads and stores. -/
namespace Go.Dn
open Go.RowKit
variable {P:Program} {C:Ctx} {st:AS} {a:Act} {w:World} {R:Type} {r:R}
variable {gg:Bool} {e:CT} {fl:sn} {g:Gh} {i:Int} {n off:Nat} {hw:Nat->Nat} {p:Operand} {c:RC} {sh:Shape} {T:TypeId} {v:Value} {cs vs:aw AC} {fp fp0:fA}
theorem ca.mid {vs:jf}{xs:aw AC}(h:ca c vs xs fp)(off n:Nat): ∃f1 f2 f3,fp=f1++f2++f3/\ca c (vs.take off) (xs.take off) f1/\ca c ((vs.drop off).take n) ((xs.drop off).take n) f2/\ca c (vs.drop (off+n)) (xs.drop (off+n)) f3:=by obtain⟨f1,g1,rfl,r1,r2⟩:=h.split off;obtain⟨f2,f3,rfl,r3,r4⟩:=r2.split n;rw[fE,fE]at r4;exact⟨f1,f2,f3,by simp,r1,r3,r4⟩
theorem TV {w:World}{b:Nat}{arr:Array Value}{fr:Nat×Nat}(hb:w.heap[b]?=some (.cells arr T fr))(off n:Nat): ∀j v,((arr.toList.drop off).take n)[j]?=some v->w.cell? ⟨b,off+j,none⟩=some v:=by intro j v hv;rw[dY]at hv;split at hv;rw[bS,cV]at hv;rw[qg hb];exact hv;cases hv
theorem Eg {s:Nat}(h:gS c v (.val false [.ptr s off]) fp):v=.pointer (some ⟨c.β s,off,none⟩):=(fu h).1
theorem eE.aoG (h:eE C g st a w [])(s:Nat)(hb:st.boxes[s]?=some (some cs))(off n:Nat)(ik:off+n<=cs.length)(fU:∀arr T fr,w.heap[g.β s]?=some (.cells arr T fr)->Cut gg v ((arr.toList.drop off).take n)): ∃g',eE C g' (st.fD s (some (eX cs off (bl st.ep ((cs.drop off).take n))))) a w [(v,.val gg ((cs.drop off).take n))]:=by
 obtain⟨arr,T,fr,fp,lf,uO,hr,hn,yL,hl,KO,KR⟩:=h.boxes s cs hb;obtain⟨f1,f2,f3,rfl,r1,r2,r3⟩:=hr.mid off n;have Fb:=hn;rw[bj]at Fb;have n1:=aQ.1 Fb;have n2:=aQ.1 n1.2.1;have BO:s<st.boxes.length:=(aC.1 hb).1;let g':Gh:={g with fj:=λb=>if b∈f2 then some (.hand 0) else g.fj b}
 let cp:AS:=st.fD s (some (eX cs off (bl st.ep ((cs.drop off).take n))));have hle:(dq C g st w).Le (dq C g' cp w):=UP rfl (λ_ _ _ _ _ hv=>hv) (λ_ _=>rfl) (λ_ _ _ ho hu=>⟨ho,hu⟩);have hlk:∀b y,g.fj b=some y->b∉f2->g'.fj b=some y:=by intro b y hb hm;show(if b∈f2 then _ else _)=_;rw[aK hm];exact hb
 have O6:∀b y,y≠ .box s->g.fj b=some y->b∉f2:=λb y hy hb hm=>hy (by have:=hl b (by simp[hm]);rw[hb]at this;simpa using this);refine⟨g',h.step (λy=>y≠ .box s) hle h.defers h.size (by show(st.fD s _).boxes.length=st.slots.length;rw[kZ,ay];exact h.bsize) h.frame ?_ (λb y hy hb=>⟨hlk b y hb (O6 b y hy hb),rfl,rfl⟩) ?_ ?_ ?_ (.inl ⟨by simp,rfl⟩)⟩;intro b y hy;have hy':(if b∈f2 then some (kK.hand 0) else g.fj b)=some y:=hy;by_cases hm:b∈f2;exact h.gN b _ (hl b (by simp[hm]));rw[aK hm]at hy';exact h.gN b y hy';exact λi av hi=> .inl ⟨by simp,hi,rfl⟩;intro t sB ht;have ht':(st.boxes.set s (some (eX cs off (bl st.ep ((cs.drop off).take n)))))[t]?=some (some sB):=by rw[<-kZ];exact ht
 by_cases vK:t=s;subst vK;rw[bO]at ht';simp only[cz,BO]at ht';simp at ht';subst ht';have MT:eX cs off (bl st.ep ((cs.drop off).take n))=cs.take off++bl st.ep ((cs.drop off).take n)++cs.drop (off+n):=by simp only[eX,bl,bw,aP,aS];rw[ju (by omega)]
 refine .inr ⟨arr,T,fr,f1++f3,lf,uO,?_,?_,?_,?_,?_,KR⟩;have e:arr.toList=arr.toList.take off++(arr.toList.drop off).take n++arr.toList.drop (off+n):=by rw[<-fE,bj,cW,cW]
 have hm1:=r1.mono hle (λb _=>⟨rfl,rfl⟩);have hm2:=(r2.bl).mono hle (by simp);have hm3:=r3.mono hle (λb _=>⟨rfl,rfl⟩);have hm4:=(hm1.append hm2).append hm3;rw[<-e,bR]at hm4;have e3:cs.take off++bl (dq C g st w).ep ((cs.drop off).take n)++cs.drop (off+n)=eX cs off (bl st.ep ((cs.drop off).take n)):=MT.symm;rw[e3]at hm4;exact hm4;refine aQ.2 ⟨n1.1,n2.2.1,?_⟩;rintro b hb c hc rfl;exact n1.2.2 b hb b (bD _ hc) rfl;intro hm;have hm':g.β t∈f1++f3:=hm;refine yL ?_;rcases aA.1 hm' with k|k;exact bP _ (bP _ k);exact bD _ k;intro b hb;refine hlk b _ (hl b (by simp at hb⊢;rcases hb with hb|hb<;>simp[hb])) ?_;intro hm;rcases aA.1 hb with hb|hb;exact n1.2.2 b hb b (bP _ hm) rfl;exact n2.2.2 b hm b hb rfl;refine hlk _ _ KO (λhm=>yL ?_);have hm':g.β t∈f2:=hm;exact bP _ (bD _ hm');rw[aR (df vK)]at ht';exact .inl ⟨by simpa using vK,ht',rfl⟩;intro k u av hk;cases k with
 |zero=>simp only[cR,bq,Prod.mk.injEq]at hk;obtain⟨rfl,rfl⟩:=hk;refine .inr ⟨f2,⟨_,fU arr T fr lf,r2.mono hle (λb _=>⟨rfl,rfl⟩)⟩,n2.1,λb hb=>?_⟩;show(if b∈f2 then _ else _)=_;rw[aI hb]
 |succ k=>simp at hk
theorem iy.header {xs:aw e.D}(r:iy c v (.sl fl e xs) fp):∃o n k,v=.slice o n k/\n=xs.length:=by
 cases fl with
 |own t=>obtain⟨⟨u,hu,h⟩,_⟩:=r;simp at hu;subst hu;rcases h with⟨⟨_,rfl⟩,rfl,_⟩|⟨b,o0,cap,arr,T,fr,fps,rfl,_⟩;exact⟨_,_,_,rfl,rfl⟩;exact⟨_,_,_,rfl,rfl⟩
 |arg _=>obtain⟨_,u,hu,h⟩:=r;simp at hu;subst hu;rcases h with⟨⟨ad,rfl⟩,rfl⟩|⟨b,o,cap,rfl,_⟩;exact⟨_,_,_,rfl,rfl⟩;exact⟨_,_,_,rfl,rfl⟩
 |loc ep pv=>exact r.2.2.1
 |nest _ _ _ _ _ _=>exact r.2.2.1
 |part _ _ _ _=>exact r.2.2.1
 |fS _ _ _=>obtain⟨_,⟨k,_,b,o0,cap,arr,T,fr,fps,rfl,_⟩,_⟩:=r;exact⟨_,_,_,rfl,rfl⟩
theorem RH {b o0 len cap t:Nat}{rt:lx}{e:CT}(hi:c.iss t)(hn:i=n)(hh:c.hdr t=.slice (some ⟨b,o0,none⟩) len cap)(hl:n<len):∀(cs:aw AC)(p:Nat){vs:jf},ca c vs cs []->
 (∀j u,vs[j]?=some u->c.S b (o0+n*e.size+(p+j))/\c.w.cell? ⟨b,o0+n*e.size+(p+j),none⟩=some u)->ca c vs (Xc c.ep rt t e i p cs) []
 |[],_,vs,h,_=>by cases vs<;>exact h
 |x::cs,p,vs,h,hc=>by
  cases vs with
  |nil=>exact h.elim
  |cons v vs=>
   obtain⟨f1,f2,hf,h1,h2⟩:=h;have e1:f1=[]:=by have:=hf.symm;simp at this;exact this.1
   have e2:f2=[]:=by have:=hf.symm;simp at this;exact this.2
   subst e1;subst e2;have wW:=RH (rt:=rt) (e:=e) hi hn hh hl cs (p+1) h2 (λj u hu=>by have:=hc (j+1) u (by simpa using hu);rwa[show p+(j+1)=p+1+j by omega]at this);have hv:=hc 0 v rfl;cases x with|sl fl e' xs=>refine⟨[],[],rfl,⟨rfl,bt _,?_,λ_=>⟨hi,n,b,o0,len,cap,hn,hh,hl,?_,?_⟩⟩,wW⟩;exact iy.header h1;have:=hv.1;rwa[eN]at this;have:=hv.2;rwa[eN]at this|int _ _=>exact⟨[],[],rfl,h1,wW⟩|bool _=>exact⟨[],[],rfl,h1,wW⟩|str _=>exact⟨[],[],rfl,h1,wW⟩|kv=>exact⟨[],[],rfl,h1,wW⟩|ptr _ _=>exact⟨[],[],rfl,h1,wW⟩|Ey _ _ _ _ _=>exact⟨[],[],rfl,h1,wW⟩|fn _=>exact⟨[],[],rfl,h1,wW⟩|un=>exact⟨[],[],rfl,h1,wW⟩|bot=>exact⟨[],[],rfl,h1,wW⟩
theorem arw {w:World}{xs:aw e.D}(h:fR hw w (.sl e) [v] xs fp0){x:e.D}(hx:xs[n]?=some x): ∃b o0 cap arr T fr fx,v=.slice (some ⟨b,o0,none⟩) xs.length cap/\w.heap[b]?=some (.cells arr T fr)/\fR hw w e ((arr.toList.drop (o0+n*e.size)).take e.size) x fx:=by obtain⟨u,hu,h⟩:=h;simp at hu;subst hu;have N3:n<xs.length:=(aC.1 hx).1;rcases h with⟨⟨_,rfl⟩,rfl,rfl⟩|⟨b,o0,cap,arr,T,fr,fps,rfl,hb,uO,hs,hc,hh,rfl,hl,hr⟩;simp at hx;have Td:fps[n]?=some fps[n]:=ak (by omega);exact⟨b,o0,cap,arr,T,fr,_,rfl,hb,hr n x _ hx Td⟩
theorem aeH {E:Env}(hE:ka P E.ty){o:Oper}(ho:o.op=.load T p)(hg:eE C g st a w []){K:AS->az R}{x:e.D}(hT:jK E.ty T=some sh)(xd:iy (dq C g st w) (a.eval p) (.Ey fl e x i off) [])(hk:Gz o sh fl e i off st K=some r):nG P C o a w K r:=by
 unfold Gz at hk;split at hk;rename_i ep rt t;obtain⟨_,b,ob,hv,_,_,Jv⟩:=xd;obtain⟨_,n,o0,len,cap,yK,hrt,N3,hob⟩:=Jv rt t rfl;split at hk;rename_i t' e' ys iL;split at hk;rename_i he;subst he;split at hk;rename_i hc;obtain⟨rfl,ik⟩:=hc;simp only at hk;cases HD:idx ys i with
 |none=>rw[HD]at hk;simp[aa]at hk
 |some y=>
  rw[HD]at hk;simp only[aa]at hk;have hyn:ys[n]?=some y:=by rw[yK]at HD;exact HD
  obtain⟨v0,f2,hh,iG,_,_,_⟩:=hg.Xv rt iL;obtain⟨b2,o2,abZ,arr,T',fr,fx,Rb,lf,Q7⟩:=arw iG hyn;have h1:=hh t' rfl;have h2:g.hdr t'=.slice (some ⟨b,o0,none⟩) len cap:=hrt;rw[h2,Rb]at h1;simp only[Value.slice.injEq,bq,Addr.mk.injEq]at h1;obtain⟨⟨rfl,rfl,_⟩,_⟩:=h1;have hln:((arr.toList.drop (o2+n*e'.size)).take e'.size).length=e'.size:=fR.length Q7;have Ls:jM w (dq C g st w).S e' ((arr.toList.drop (o2+n*e'.size)).take e'.size) y:=fR.rep (λb o ho=> .inr ho) Q7;have fO:ca (dq C g st w) ((arr.toList.drop (o2+n*e'.size)).take e'.size) (cellsOf e' (.loc st.ep none) y) []:=IS (c:=dq C g st w) Ls;have E8:∀j u,((((arr.toList.drop (o2+n*e'.size)).take e'.size).drop off).take sh.ct.size)[j]?=some u->w.cell? ⟨b2,ob+off+j,none⟩=some u:=by intro j u hu;rw[dY]at hu;split at hu;rw[bS,dY]at hu;split at hu;rw[bS,cV]at hu;rw[qg lf,hob,gi];exact hu;cases hu;cases hu
  obtain⟨v,fg,fU⟩:=AR (hE T sh hT) b2 (ob+off) ((((arr.toList.drop (o2+n*e'.size)).take e'.size).drop off).take sh.ct.size) (by simp only[aP,aS]at hln⊢;omega) E8;have Jw:(execOp a.eval o).run P w=.ok (.value v) w:=by simp only[execOp,ho,hv,Instr.loadAt,Instr.sureAddr,Sem.run_bind,Sem.run_pure,Result.andThen_ok];show((loadVar T ⟨b2,ob+off,none⟩).run P w).andThen _=_;rw[fg];rfl
  obtain⟨f1,f2',f3,hf,_,r2,_⟩:=fO.mid off sh.ct.size;have CV:f2'=[]:=by cases f2' with|nil=>rfl|cons y ys=>simp at hf
  subst CV;refine⟨_,_,_,.inl Jw,⟨g,hg.quiet o.dst ?_⟩,hk⟩;exact⟨_,fU,r2⟩
 cases hk;cases hk;cases hk;cases hk
theorem Hv {fps:aw fA}{f:fA}(h:fps[n]?=some f): fps.flatten=(fps.take n).flatten++f++(fps.drop (n+1)).flatten/\∀f',(fps.set n f').flatten=(fps.take n).flatten++f'++(fps.drop (n+1)).flatten:=by
 have hn:n<fps.length:=(aC.1 h).1;have hf:fps[n]=f:=by rw[ak hn]at h;simpa using h
 constructor
 ·conv=>lhs;rw[<-cW n fps,cv hn,hf]
  simp
 intro f';rw[List.set_eq_take_append_cons_drop,aI hn];simp
theorem alK {w:World}{xs:aw e.D}(h:fR hw w (.sl e) [v] xs fp0){x:e.D}(hx:xs[n]?=some x): ∃b o0 cap arr T fr f1 fx f3,v=.slice (some ⟨b,o0,none⟩) xs.length cap/\w.heap[b]?=some (.cells arr T fr)/\fR hw w e ((arr.toList.drop (o0+n*e.size)).take e.size) x fx/\ fp0=b::(f1++fx++f3)/\ajb hw w e v xs n (b::(f1++f3)):=by obtain⟨u,hu,h⟩:=h;simp at hu;subst hu;have N3:n<xs.length:=(aC.1 hx).1;rcases h with⟨⟨_,rfl⟩,rfl,rfl⟩|⟨b,o0,cap,arr,T,fr,fps,rfl,hb,uO,hs,hc,hh,rfl,hl,hr⟩;simp at hx;have Td:fps[n]?=some fps[n]:=ak (by omega);have KN:=Hv Td;refine⟨b,o0,cap,arr,T,fr,(fps.take n).flatten,fps[n],(fps.drop (n+1)).flatten,rfl,hb,hr n x _ hx Td,by rw[KN.1],?_⟩;refine⟨b,o0,cap,arr,T,fr,fps.set n [],rfl,hb,uO,hs,hc,hh,by rw[KN.2];simp,by simp[hl],N3,by rw[bO];simp[hl,N3],λi x' f hi D6 hf=>?_⟩;rw[aR (df hi)]at hf;exact hr i x' f D6 hf
theorem XS {E:Env}(hE:ka P E.ty){o:Oper}(ho:o.op=.load T p)(hg:eE C g st a w []){K:AS->az R}{x:e.D}(hT:jK E.ty T=some sh)(xd:iy (dq C g st w) (a.eval p) (.Ey fl e x i off) [])(hk:Bh o sh fl e i off st K=some r):nG P C o a w K r:=by
 unfold Bh at hk;split at hk;rename_i ep rt t;obtain⟨_,b,ob,hv,_,_,Jv⟩:=xd;obtain⟨_,n,o0,len,cap,yK,hrt,N3,hob⟩:=Jv rt t rfl;split at hk;rename_i t' e' ys iL;split at hk;rename_i he;subst he;split at hk;rename_i hc;obtain⟨rfl,rfl,N1⟩:=hc;simp only at hk;cases HD:idx ys i with
 |none=>rw[HD]at hk;simp[aa]at hk
 |some y=>
  rw[HD]at hk;simp only[aa]at hk;have hyn:ys[n]?=some y:=by rw[yK]at HD;exact HD
  obtain⟨v0,f2,UD,Fc,_,pB⟩:=hg.al0 rt (by simp) iL;obtain⟨b2,o2,abZ,arr,T',fr,f1,fx,f3,Rb,lf,Q7,GR,asx⟩:=alK UD.1 hyn;have h1:=(UD.2 t' rfl).2;have h2:g.hdr t'=.slice (some ⟨b,o0,none⟩) len cap:=hrt;have SP:v0=g.hdr t':=h1;rw[h2,Rb]at SP;simp only[Value.slice.injEq,bq,Addr.mk.injEq]at SP;obtain⟨⟨rfl,rfl,_⟩,_⟩:=SP;have lf:w.heap[b2]?=some (.cells arr T' fr):=lf;have hln:((arr.toList.drop (o2+n*e'.size)).take e'.size).length=e'.size:=fR.length Q7;have E8:∀j u,((arr.toList.drop (o2+n*e'.size)).take e'.size)[j]?=some u->w.cell? ⟨b2,ob+0+j,none⟩=some u:=by intro j u hu;rw[dY]at hu;split at hu;rw[bS,cV]at hu;rw[qg lf,hob,eN];exact hu;cases hu
  obtain⟨v,fg,fU⟩:=AR (hE T sh hT) b2 (ob+0) ((arr.toList.drop (o2+n*e'.size)).take e'.size) (by rw[hln,N1]) E8;have Jw:(execOp a.eval o).run P w=.ok (.value v) w:=by simp only[execOp,ho,hv,Instr.loadAt,Instr.sureAddr,Sem.run_bind,Sem.run_pure,Result.andThen_ok];show((loadVar T ⟨b2,ob+0,none⟩).run P w).andThen _=_;rw[fg];rfl
  rw[GR]at Fc;have yL:=dC.1 Fc;have hn3:=yL.2;rw[bj]at hn3;have m1:=aQ.1 hn3;have m2:=aQ.1 m1.2.1;obtain⟨g',pw⟩:=pB (.sl (.fS (some t') i (some st.ep)) e' ys) (b2::(f1++f3)) fx v (.val sh.agg (cellsOf e' (.own none) y)) (λc' hle XZ Je Bs=>by refine⟨λq hq=>?_,⟨n,yK,by rw[XZ,Je];exact asx⟩,λt ht=>?_⟩;simp at hq;subst hq;refine⟨by rw[Bs];exact bt _,λ_=>?_⟩;refine fR.rep (hw:=c'.hw) (fp:=f2) (λb o ho=> .inr ho) ?_;rw[XZ,Je];exact UD.1;simp at ht;subst ht;have h0:=UD.2 t' rfl;exact⟨(hle.hdr t' h0.1).1,by rw[(hle.hdr t' h0.1).2];exact h0.2⟩) (by refine dC.2 ⟨λhm=>yL.1 (by rcases aA.1 hm with k|k<;>simp[k]),aQ.2 ⟨m1.1,m2.2.1,?_⟩⟩;rintro c hc d hd rfl;exact m1.2.2 c hc c (bD _ hd) rfl) m2.1 (λc hc=>by rw[GR];rcases bZ.1 hc with rfl|hc;exact⟨by simp,λhm=>yL.1 (by simp[hm])⟩;rcases aA.1 hc with hc|hc;exact⟨by simp[hc],λhm=>m1.2.2 c hc c (bP _ hm) rfl⟩;exact⟨by simp[hc],λhm=>m2.2.2 c hm c hc rfl⟩) (λc hc=>by rw[GR];simp[hc]) ⟨_,fU,CE (c:=dq C g st w) Q7⟩;exact⟨_,_,_,.inl Jw,eE.Gj pw o.dst,hk⟩
 cases hk;cases hk;cases hk;cases hk
theorem ahA {E:Env}(hE:ka P E.ty){an:An}{o:Oper}(ho:o.op=.load T p)(h:py C st a w){K:AS->az R}(hk:qv E an o T p st K=some r):nG P C o a w K r:=by
 unfold qv at hk;obtain⟨g,hg⟩:=id h;split at hk;rename_i sh s off hT hp;have xd:=hg.rd p;rw[hp]at xd;have xd:=Eg xd;split at hk;rename_i cs kD;have kD:st.boxes[s]?=some (some cs):=by rw[ez]at kD;cases hq:st.boxes[s]? with|none=>rw[hq]at kD;simp at kD|some q=>rw[hq]at kD;simp at kD;rw[kD]
 split at hk;rename_i ik;obtain⟨arr,T',fr,fp,lf,uO,hr,hn,yL,hl,KO,KR⟩:=hg.boxes s cs kD;have hlen:=hr.length;have aqr:=TV lf off sh.ct.size;obtain⟨v,fg,fU⟩:=AR (hE T sh hT) (g.β s) off ((arr.toList.drop off).take sh.ct.size) (by simp at hlen⊢;omega) aqr;have Jw:(execOp a.eval o).run P w=.ok (.value v) w:=by simp only[execOp,ho,xd,Instr.loadAt,Instr.sureAddr,Sem.run_bind,Sem.run_pure,Result.andThen_ok];show((loadVar T ⟨g.β s,off,none⟩).run P w).andThen _=_;rw[fg];rfl
 split at hk;rename_i d hd;split at hk;obtain⟨g',pw⟩:=hg.aoG s kD off sh.ct.size ik (gg:=sh.agg) (v:=v) (λay6 T2 fr2 h2=>by rw[lf]at h2;simp at h2;obtain⟨rfl,_⟩:=h2;exact fU);refine⟨_,_,_,.inl Jw,?_,hk⟩;rw[hd];exact eE.Gj pw (some d);refine⟨_,_,_,.inl Jw,?_,hk⟩;rw[hd];refine⟨g,hg.quiet (some d) ⟨_,fU,?_⟩⟩;obtain⟨f1,f2,f3,_,_,r2,_⟩:=hr.mid off sh.ct.size;exact ca.borrow (c:=dq C g st w) (.box s) off r2;cases hk;cases hk;cases hk;rename_i sh fl e x i off hT hp;have xd:=hg.rd p;rw[hp]at xd;have xd:=fu xd;split at hk;exact XS hE ho hg hT xd hk;split at hk;rename_i qm;split at hk;rename_i ik
 have key:∃b o cs,a.eval p=.pointer (some ⟨b,o+off,none⟩)/\(∀j v,cs[j]?=some v->w.cell? ⟨b,o+j,none⟩=some v)/\ca (dq C g st w) cs (cellsOf e fl.bare x) []/\
  ∀ep rt t,fl=.loc ep (some (rt,t))->(dq C g st w).iss t/\(∃n o0 len cap:Nat,i=n/\(dq C g st w).hdr t=.slice (some ⟨b,o0,none⟩) len cap/\n<len/\o=o0+n*e.size)/\∀j v,cs[j]?=some v->(dq C g st w).S b (o+j):=by
  cases fl with
  |own t=>exact xd.elim
  |nest _ _ _ _ _ _=>exact xd.elim
  |part _ _ _ _=>exact xd.elim
  |fS _ _ _=>exact xd.elim
  |arg _=>
   obtain⟨_,b,o,hv,cs,hc,hr⟩:=xd
   exact⟨b,o,cs,hv,λj v hj=>(hc j v hj).2,Is hr,λ_ _ _ he=>by cases he⟩
  |loc ep pv=>
   obtain⟨_,b,o,hv,h2,h3,h4⟩:=xd
   have Bs:ep=st.ep:=by simpa[sn.live]using qm
   obtain⟨cs,hc,hr⟩:=h3 Bs
   exact⟨b,o,cs,hv,λj v hj=>(hc j v hj).2,by simp only[sn.bare];rw[Bs];exact IS hr,λep' rt t he=>by cases he;obtain⟨k1,k2⟩:=h4 rt t rfl;exact⟨k1,k2,λj v hj=>(hc j v hj).1⟩⟩
 obtain⟨b,ob,cs,hv,hc,fO,Ha⟩:=key;have hlen:=fO.length;rw[lL]at hlen;obtain⟨v,fg,fU⟩:=AR (hE T sh hT) b (ob+off) ((cs.drop off).take sh.ct.size) (by simp;omega) (λj u hu=>by rw[dY]at hu;split at hu;rw[bS]at hu;have:=hc _ _ hu;rwa[<-gi]at this;cases hu);have Jw:(execOp a.eval o).run P w=.ok (.value v) w:=by simp only[execOp,ho,hv,Instr.loadAt,Instr.sureAddr,Sem.run_bind,Sem.run_pure,Result.andThen_ok];show((loadVar T ⟨b,ob+off,none⟩).run P w).andThen _=_;rw[fg];rfl
 obtain⟨f1,f2,f3,hf,_,r2,_⟩:=fO.mid off sh.ct.size;have CV:f2=[]:=by cases f2 with|nil=>rfl|cons y ys=>simp at hf
 subst CV;refine⟨_,_,_,.inl Jw,⟨g,hg.quiet o.dst ?_⟩,hk⟩;refine⟨_,fU,?_⟩;unfold alA;split;rename_i d _ _ _ _;cases an.nest.contains d with|false=>exact r2|true=>simp only[ah];obtain⟨k1,⟨n,o0,len,cap,hi,hh,N3,O7⟩,hS⟩:=Ha _ _ _ rfl;refine RH (b:=b) (n:=n) (o0:=o0) (len:=len) (cap:=cap) k1 hi hh N3 _ off r2 (λj u hu=>?_);rw[dY]at hu;split at hu;rw[bS]at hu;rw[<-O7];exact⟨hS _ _ hu,hc _ _ hu⟩;cases hu
 exact r2;cases hk;exact aeH hE ho hg hT xd hk;cases hk
theorem JS (h:off+vs.length<=cs.length):(eX cs off vs).length=cs.length:=by simp[eX];omega
theorem JU {E:Env}(hE:ka P E.ty){o:Oper}{x:Operand}(hd:o.dst=none)(ho:o.op=.store T p x){K:AS->az R}{s:Nat}{cp:AS}{g':Gh}(hT:jK E.ty T=some sh)(xd:a.eval p=.pointer (some ⟨g'.β s,off,none⟩))(pw:eE C g' cp a w [(a.eval x,.val gg vs)])(kD:(nth cp.boxes s).getD none=some cs)(hlen:vs.length=sh.ct.size)(ak2:vs.all AC.L3=true)(ik:off+sh.ct.size<=cs.length)(hk:K (cp.fD s (some (eX cs off vs)))=some r):nG P C o a w K r:=by
 have kD:cp.boxes[s]?=some (some cs):=by rw[ez]at kD;cases hq:cp.boxes[s]? with|none=>rw[hq]at kD;simp at kD|some q=>rw[hq]at kD;simp at kD;rw[kD]
 obtain⟨arr,T',fr,fp,lf,uO,hr,hn,yL,hl,KO,KR⟩:=pw.boxes s cs kD;obtain⟨fh,⟨us,fU,hrh⟩,SR,Zs⟩:=pw.hands 0 _ _ rfl;have h1:=hrh.nS ak2;have hul:=hrh.length;have hal:=hr.length;have ao6:off+us.length<=arr.size:=by simp at hal;omega
 have Zx:=GB (P:=P) (w:=w) (hE T sh hT) (g'.β s) off fU (by omega) h1 lf uO ao6;have fg:(execOp a.eval o).run P w=.ok .skip (wQ w (g'.β s) (fw arr off us) T' fr):=by simp only[execOp,ho,xd,Instr.storeAt,Instr.sureAddr,Sem.run_bind,Sem.run_pure,Result.andThen_ok];show((storeVar T ⟨g'.β s,off,none⟩ (a.eval x)).run P w).andThen _=_;rw[Zx];rfl
 have IG:=mQ lf;obtain⟨f1,f2,f3,rfl,r1,r2,r3⟩:=hr.mid off us.length;have Fb:=hn;rw[bj]at Fb;have n1:=aQ.1 Fb;have n2:=aQ.1 n1.2.1;have Tb:∀b∈fh,b≠g'.β s/\b∉f1++f2++f3:=by intro b hb;have Uz:=Zs b hb;refine⟨λe=>?_,λhm=>?_⟩;rw[e,KO]at Uz;cases Uz;rw[hl b hm]at Uz;cases Uz
 have aqj:Fr (λb=>ej (g'.fj b)\/b=g'.β s) w (wQ w (g'.β s) (fw arr off us) T' fr):=⟨rfl,rfl,rfl,by rw[my];exact bt _,λb _ hb=>nA (λe=>hb (.inr e))⟩
 have ayG:∀t,(if t=s then g'.β s else g'.β t)=g'.β t:=by intro t;split<;>simp_all
 have hle:(dq C g' cp w).Le ⟨g'.hw,λt=>if t=s then g'.β s else g'.β t,C.A,g'.hdr,nH cp,cp.ep,jL cp,wQ w (g'.β s) (fw arr off us) T' fr⟩:=by
  refine⟨rfl,λ_ ht=>⟨ht,rfl⟩,λk b o u hA hu=>?_,bt _,λt ht=>⟨ht,ayG t⟩,λ_ b o u ho hu=>⟨ho,?_⟩⟩;have Fe:b≠g'.β s:=by rintro rfl;exact pw.Rq KO k o hA
  rw[World.cell?_of_block (a:=⟨b,o,none⟩) (nA Fe)];exact hu;have Fe:b≠g'.β s:=by rintro rfl;have O7:o<g'.hw (g'.β s):=ho;rw[KR]at O7;omega
  rw[World.cell?_of_block (a:=⟨b,o,none⟩) (nA Fe)];exact hu
 have vc:∀b,b≠g'.β s->(wQ w (g'.β s) (fw arr off us) T' fr).heap[b]?=w.heap[b]?:=λb hb=>nA hb;have fO:ca ⟨g'.hw,λt=>if t=s then g'.β s else g'.β t,C.A,g'.hdr,nH cp,cp.ep,jL cp,wQ w (g'.β s) (fw arr off us) T' fr⟩ (fw arr off us).toList (eX cs off vs) (f1++fh++f3):=by
  rw[xR us arr off ao6];have e2:eX cs off vs=cs.take off++vs++cs.drop (off+us.length):=by simp only[eX];rw[hul]
  rw[e2];refine((r1.mono hle (λb hb=>⟨vc b (λe=>yL (by rw[<-e];simp[hb])),rfl⟩)).append (hrh.mono hle (λb hb=>⟨vc b (Tb b hb).1,rfl⟩))).append (r3.mono hle (λb hb=>⟨vc b (λe=>yL (by rw[<-e];simp[hb])),rfl⟩))
 have aqv:(f1++fh++f3).Nodup:=by rw[bj];refine aQ.2 ⟨n1.1,aQ.2 ⟨SR,n2.2.1,?_⟩,?_⟩;rintro b hb c hc rfl;exact(Tb b hb).2 (by simp[hc]);rintro b hb c hc rfl;rcases aA.1 hc with hc|hc;exact(Tb b hc).2 (by simp[hb]);exact n1.2.2 b hb b (bD _ hc) rfl
 obtain⟨g2,_,Kn⟩:=pw.abT s (bnew:=g'.β s) (hw':=g'.hw) (.inl ⟨rfl,KO⟩) aqj (zE IG) (λj hj=>uO j (by rwa[jb]at hj)) (by rw[my];exact IG) KR
  (λ_ _ _ _ _=>rfl) (λb o u ho hu=>hle.aic rfl b o u ho hu) fO aqv
  (by intro hm;simp only[aA]at hm
      rcases hm with(hm|hm)|hm
      ·exact yL (by simp[hm])
      ·exact(Tb _ hm).1 rfl
      ·exact yL (by simp[hm]))
  (by intro b hm;rw[my];simp only[aA]at hm
      rcases hm with(hm|hm)|hm
      ·exact⟨(pw.gN b _ (hl b (by simp[hm]))).1,.inr (.inl (hl b (by simp[hm])))⟩
      ·exact⟨(pw.gN b _ (Zs b hm)).1,.inl (by rw[Zs b hm];rfl)⟩
      ·exact⟨(pw.gN b _ (hl b (by simp[hm]))).1,.inr (.inl (hl b (by simp[hm])))⟩)
 refine⟨undef,_,_,.inr ⟨rfl,fg⟩,?_,hk⟩;rw[hd];exact⟨g2,Kn⟩
theorem TE {E:Env}(hE:ka P E.ty){o:Oper}{x:Operand}(hd:o.dst=none)(ho:o.op=.store T p x)(h:py C st a w){K:AS->az R}{s:Nat}{cp:AS}(hT:jK E.ty T=some sh)(hp:st.rd p=.val false [.ptr s off])(vd:st.take x=(.val gg vs,cp))(kD:(nth cp.boxes s).getD none=some cs)(hlen:vs.length=sh.ct.size)(ak2:vs.all AC.L3=true)(ik:off+sh.ct.size<=cs.length)(hk:K (cp.fD s (some (eX cs off vs)))=some r):nG P C o a w K r:=by obtain⟨g,hg⟩:=h;have xd:=hg.rd p;rw[hp]at xd;have xd:=Eg xd;obtain⟨g',⟨MU,_⟩,pw⟩:=hg.amS x;rw[vd]at pw;exact JU hE hd ho hT (by rw[MU];exact xd) pw kD hlen ak2 ik hk
end Go.Dn
