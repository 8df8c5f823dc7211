import Derived.Test.YthllnaiaikjelaaGreatDnOps1
/- Part 2: loads and stores. -/
namespace Go.Dn
open Go.RowKit
variable {P:Program} {C:Ctx} {st:AS} {a:Act} {w:World} {R:Type} {r:R}
variable {gg:Bool} {e:CT} {fl:ux} {g:Gh} {off:Nat} {hw:Nat->Nat} {p:Operand} {c:RC} {sh:Shape} {T:TypeId} {cs vs:ar AC} {fp fp0:ei}
theorem bE.mid {vs:iW}{xs:ar AC}(h:bE c vs xs fp)(off n:Nat): ∃f1 f2 f3,fp=f1++f2++f3/\bE c (vs.take off) (xs.take off) f1/\bE c ((vs.drop off).take n) ((xs.drop off).take n) f2/\bE c (vs.drop (off+n)) (xs.drop (off+n)) f3:=by obtain⟨f1,g1,rfl,r1,r2⟩:=h.split off;obtain⟨f2,f3,rfl,r3,r4⟩:=r2.split n;rw[eO,eO]at r4;exact⟨f1,f2,f3,by simp,r1,r3,r4⟩
theorem XS {w:World}{b:Nat}{arr:Array Value}{fr:Nat×Nat}(hb:w.heap[b]?=some (.cells arr T fr))(off n:Nat): ∀j v,((arr.toList.drop off).take n)[j]?=some v->w.cell? ⟨b,off+j,none⟩=some v:=by intro j v hv;rw[dp]at hv;split at hv;rw[bR,cp]at hv;rw[oX hb];exact hv;cases hv
theorem Ik {v:Value}{s:Nat}(h:gj c v (.val false [.ptr s off]) fp):v=.pointer (some ⟨c.β s,off,none⟩):=(eI h).1
theorem dN.apu (h:dN C g st a w [])(s:Nat)(hb:st.boxes[s]?=some (some cs))(off n:Nat)(iB:off+n<=cs.length){v:Value}(eP:∀arr T fr,w.heap[g.β s]?=some (.cells arr T fr)->Cut gg v ((arr.toList.drop off).take n)): ∃g',dN C g' (st.eZ s (some (dw cs off (bc st.ep ((cs.drop off).take n))))) a w [(v,.val gg ((cs.drop off).take n))]:=by
 obtain⟨arr,T,fr,fp,kL,uI,hr,hn,xk,hl,LW,Ob⟩:=h.boxes s cs hb;obtain⟨f1,f2,f3,rfl,r1,r2,r3⟩:=hr.mid off n;have Fq:=hn;rw[aX]at Fq;have n1:=aG.1 Fq;have n2:=aG.1 n1.2.1;have CG:s<st.boxes.length:=(aJ.1 hb).1;let g':Gh:={g with eC:=λb=>if b∈f2 then some (.hand 0) else g.eC b}
 let st':AS:=st.eZ s (some (dw cs off (bc st.ep ((cs.drop off).take n))));have hle:(cP C g st w).Le (cP C g' st' w):=YI rfl (λ_ _ _ _ _ hv=>hv) (λ_ _=>rfl) (λ_ _ _ ho hu=>⟨ho,hu⟩);have hlk:∀b y,g.eC b=some y->b∉f2->g'.eC b=some y:=by intro b y hb hm;show(if b∈f2 then _ else _)=_;rw[aK hm];exact hb
 have TG:∀b y,y≠ .box s->g.eC b=some y->b∉f2:=λb y hy hb hm=>hy (by have:=hl b (by simp[hm]);rw[hb]at this;simpa using this);refine⟨g',h.step (λy=>y≠ .box s) hle h.defers h.size (by show(st.eZ s _).boxes.length=st.slots.length;rw[lY,aL];exact h.bsize) h.frame ?_ (λb y hy hb=>⟨hlk b y hb (TG b y hy hb),rfl,rfl⟩) ?_ ?_ ?_ (.inl ⟨by simp,rfl⟩)⟩;intro b y hy;have Yq:(if b∈f2 then some (ki.hand 0) else g.eC b)=some y:=hy;by_cases hm:b∈f2;exact h.fW b _ (hl b (by simp[hm]));rw[aK hm]at Yq;exact h.fW b y Yq;exact λi av hi=> .inl ⟨by simp,hi,rfl⟩;intro t pb ht;have ht':(st.boxes.set s (some (dw cs off (bc st.ep ((cs.drop off).take n)))))[t]?=some (some pb):=by rw[<-lY];exact ht
 by_cases uJ:t=s;subst uJ;rw[bu]at ht';simp only[cd,CG]at ht';simp at ht';subst ht';have P9:dw cs off (bc st.ep ((cs.drop off).take n))=cs.take off++bc st.ep ((cs.drop off).take n)++cs.drop (off+n):=by simp only[dw,bc,bW,bm,bl];rw[hG (by omega)]
 refine .inr ⟨arr,T,fr,f1++f3,kL,uI,?_,?_,?_,?_,?_,Ob⟩;have e:arr.toList=arr.toList.take off++(arr.toList.drop off).take n++arr.toList.drop (off+n):=by rw[<-eO,aX,cK,cK]
 have hm1:=r1.mono hle (λb _=>⟨rfl,rfl⟩);have hm2:=(r2.bc).mono hle (by simp);have hm3:=r3.mono hle (λb _=>⟨rfl,rfl⟩);have hm4:=(hm1.append hm2).append hm3;rw[<-e,bD]at hm4;have e3:cs.take off++bc (cP C g st w).ep ((cs.drop off).take n)++cs.drop (off+n)=dw cs off (bc st.ep ((cs.drop off).take n)):=P9.symm;rw[e3]at hm4;exact hm4;refine aG.2 ⟨n1.1,n2.2.1,?_⟩;rintro b hb c hc rfl;exact n1.2.2 b hb b (bh _ hc) rfl;intro hm;have hm':g.β t∈f1++f3:=hm;refine xk ?_;rcases aA.1 hm' with k|k;exact br _ (br _ k);exact bh _ k;intro b hb;refine hlk b _ (hl b (by simp at hb⊢;rcases hb with hb|hb<;>simp[hb])) ?_;intro hm;rcases aA.1 hb with hb|hb;exact n1.2.2 b hb b (br _ hm) rfl;exact n2.2.2 b hm b hb rfl;refine hlk _ _ LW (λhm=>xk ?_);have hm':g.β t∈f2:=hm;exact br _ (bh _ hm');rw[aZ (cX uJ)]at ht';exact .inl ⟨by simpa using uJ,ht',rfl⟩;intro k u av hk;cases k with
 |zero=>simp only[cL,bf,Prod.mk.injEq]at hk;obtain⟨rfl,rfl⟩:=hk;refine .inr ⟨f2,⟨_,eP arr T fr kL,r2.mono hle (λb _=>⟨rfl,rfl⟩)⟩,n2.1,λb hb=>?_⟩;show(if b∈f2 then _ else _)=_;rw[aM hb]
 |succ k=>simp at hk
theorem iD.header {v:Value}{xs:ar e.D}(r:iD c v (.sl fl e xs) fp):∃o n k,v=.slice o n k/\n=xs.length:=by
 cases fl with
 |own t=>obtain⟨⟨u,hu,h⟩,_⟩:=r;simp at hu;subst hu;rcases h with⟨⟨_,rfl⟩,rfl,_⟩|⟨b,o0,cap,arr,T,fr,fps,rfl,_⟩;exact⟨_,_,_,rfl,rfl⟩;exact⟨_,_,_,rfl,rfl⟩
 |arg _=>obtain⟨_,u,hu,h⟩:=r;simp at hu;subst hu;rcases h with⟨⟨ad,rfl⟩,rfl⟩|⟨b,o,cap,rfl,_⟩;exact⟨_,_,_,rfl,rfl⟩;exact⟨_,_,_,rfl,rfl⟩
 |loc ep pv=>exact r.2.2.1
 |nest _ _ _ _ _ _=>exact r.2.2.1
 |part _ _ _ _=>exact r.2.2.1
 |fL _ _ _=>obtain⟨_,⟨k,_,b,o0,cap,arr,T,fr,fps,rfl,_⟩,_⟩:=r;exact⟨_,_,_,rfl,rfl⟩
theorem VU {b n o0 len cap t:Nat}{rt:lW}{e:CT}{i:Int}(hi:c.iss t)(hn:i=n)(hh:c.hdr t=.slice (some ⟨b,o0,none⟩) len cap)(hl:n<len):∀(cs:ar AC)(p:Nat){vs:iW},bE c vs cs []->
 (∀j u,vs[j]?=some u->c.S b (o0+n*e.size+(p+j))/\c.w.cell? ⟨b,o0+n*e.size+(p+j),none⟩=some u)->bE c vs (aaE c.ep rt t e i p cs) []
 |[],_,vs,h,_=>by cases vs<;>exact h
 |x::cs,p,vs,h,hc=>by
  cases vs with
  |nil=>exact h.elim
  |cons v vs=>
   obtain⟨f1,f2,hf,h1,h2⟩:=h;have e1:f1=[]:=by have:=hf.symm;simp at this;exact this.1
   have e2:f2=[]:=by have:=hf.symm;simp at this;exact this.2
   subst e1;subst e2;have kM:=VU (rt:=rt) (e:=e) hi hn hh hl cs (p+1) h2 (λj u hu=>by have:=hc (j+1) u (by simpa using hu);rwa[show p+(j+1)=p+1+j by omega]at this);have hv:=hc 0 v rfl;cases x with|sl fl e' xs=>refine⟨[],[],rfl,⟨rfl,ba _,?_,λ_=>⟨hi,n,b,o0,len,cap,hn,hh,hl,?_,?_⟩⟩,kM⟩;exact iD.header h1;have:=hv.1;rwa[dZ]at this;have:=hv.2;rwa[dZ]at this|int _ _=>exact⟨[],[],rfl,h1,kM⟩|bool _=>exact⟨[],[],rfl,h1,kM⟩|str _=>exact⟨[],[],rfl,h1,kM⟩|kS=>exact⟨[],[],rfl,h1,kM⟩|ptr _ _=>exact⟨[],[],rfl,h1,kM⟩|HM _ _ _ _ _=>exact⟨[],[],rfl,h1,kM⟩|fn _=>exact⟨[],[],rfl,h1,kM⟩|un=>exact⟨[],[],rfl,h1,kM⟩|bot=>exact⟨[],[],rfl,h1,kM⟩
theorem aqU {w:World}{v:Value}{xs:ar e.D}(h:eU hw w (.sl e) [v] xs fp0){n:Nat}{x:e.D}(hx:xs[n]?=some x): ∃b o0 cap arr T fr fx,v=.slice (some ⟨b,o0,none⟩) xs.length cap/\w.heap[b]?=some (.cells arr T fr)/\eU hw w e ((arr.toList.drop (o0+n*e.size)).take e.size) x fx:=by obtain⟨u,hu,h⟩:=h;simp at hu;subst hu;have PA:n<xs.length:=(aJ.1 hx).1;rcases h with⟨⟨_,rfl⟩,rfl,rfl⟩|⟨b,o0,cap,arr,T,fr,fps,rfl,hb,uI,hs,hc,hh,rfl,hl,hr⟩;simp at hx;have Ua:fps[n]?=some fps[n]:=al (by omega);exact⟨b,o0,cap,arr,T,fr,_,rfl,hb,hr n x _ hx Ua⟩
theorem ag4 {E:Env}(hE:kG P E.ty){o:Oper}(ho:o.op=.load T p)(hg:dN C g st a w []){K:AS->au R}{x:e.D}{i:Int}(hT:jU E.ty T=some sh)(Ab:iD (cP C g st w) (a.eval p) (.HM fl e x i off) [])(hk:KQ o sh fl e i off st K=some r):pa P C o a w K r:=by
 unfold KQ at hk;split at hk;rename_i ep rt t;obtain⟨_,b,ob,hv,_,_,N9⟩:=Ab;obtain⟨_,n,o0,len,cap,vG,hrt,PA,hob⟩:=N9 rt t rfl;split at hk;rename_i t' e' ys iP;split at hk;rename_i he;subst he;split at hk;rename_i hc;obtain⟨rfl,iB⟩:=hc;simp only at hk;cases JY:idx ys i with
 |none=>rw[JY]at hk;simp[aa]at hk
 |some y=>
  rw[JY]at hk;simp only[aa]at hk;have hyn:ys[n]?=some y:=by rw[vG]at JY;exact JY
  obtain⟨v0,f2,hh,fB,_,_,_⟩:=hg.aaS rt iP;obtain⟨b2,o2,abG,arr,T',fr,fx,SW,kL,N7⟩:=aqU fB hyn;have h1:=hh t' rfl;have h2:g.hdr t'=.slice (some ⟨b,o0,none⟩) len cap:=hrt;rw[h2,SW]at h1;simp only[Value.slice.injEq,bf,Addr.mk.injEq]at h1;obtain⟨⟨rfl,rfl,_⟩,_⟩:=h1;have hln:((arr.toList.drop (o2+n*e'.size)).take e'.size).length=e'.size:=eU.length N7;have P8:km w (cP C g st w).S e' ((arr.toList.drop (o2+n*e'.size)).take e'.size) y:=eU.rep (λb o ho=> .inr ho) N7;have ee:bE (cP C g st w) ((arr.toList.drop (o2+n*e'.size)).take e'.size) (cellsOf e' (.loc st.ep none) y) []:=Nu (c:=cP C g st w) P8;have Fc:∀j u,((((arr.toList.drop (o2+n*e'.size)).take e'.size).drop off).take sh.ct.size)[j]?=some u->w.cell? ⟨b2,ob+off+j,none⟩=some u:=by intro j u hu;rw[dp]at hu;split at hu;rw[bR,dp]at hu;split at hu;rw[bR,cp]at hu;rw[oX kL,hob,fZ];exact hu;cases hu;cases hu
  obtain⟨v,ez,eP⟩:=Eo (hE T sh hT) b2 (ob+off) ((((arr.toList.drop (o2+n*e'.size)).take e'.size).drop off).take sh.ct.size) (by simp only[bm,bl]at hln⊢;omega) Fc;have Oa:(execOp a.eval o).run P w=.ok (.value v) w:=by simp only[execOp,ho,hv,Instr.loadAt,Instr.sureAddr,Sem.run_bind,Sem.run_pure,Result.andThen_ok];show((loadVar T ⟨b2,ob+off,none⟩).run P w).andThen _=_;rw[ez];rfl
  obtain⟨f1,f2',f3,hf,_,r2,_⟩:=ee.mid off sh.ct.size;have JF:f2'=[]:=by cases f2' with|nil=>rfl|cons y ys=>simp at hf
  subst JF;refine⟨_,_,_,.inl Oa,⟨g,hg.quiet o.dst ?_⟩,hk⟩;exact⟨_,eP,r2⟩
 cases hk;cases hk;cases hk;cases hk
theorem HO {fps:ar ei}{n:Nat}{f:ei}(h:fps[n]?=some f): fps.flatten=(fps.take n).flatten++f++(fps.drop (n+1)).flatten/\∀f',(fps.set n f').flatten=(fps.take n).flatten++f'++(fps.drop (n+1)).flatten:=by
 have hn:n<fps.length:=(aJ.1 h).1;have hf:fps[n]=f:=by rw[al hn]at h;simpa using h
 constructor
 ·conv=>lhs;rw[<-cK n fps,cg hn,hf]
  simp
 intro f';rw[List.set_eq_take_append_cons_drop,aM hn];simp
theorem ang {w:World}{v:Value}{xs:ar e.D}(h:eU hw w (.sl e) [v] xs fp0){n:Nat}{x:e.D}(hx:xs[n]?=some x): ∃b o0 cap arr T fr f1 fx f3,v=.slice (some ⟨b,o0,none⟩) xs.length cap/\w.heap[b]?=some (.cells arr T fr)/\eU hw w e ((arr.toList.drop (o0+n*e.size)).take e.size) x fx/\ fp0=b::(f1++fx++f3)/\ald hw w e v xs n (b::(f1++f3)):=by obtain⟨u,hu,h⟩:=h;simp at hu;subst hu;have PA:n<xs.length:=(aJ.1 hx).1;rcases h with⟨⟨_,rfl⟩,rfl,rfl⟩|⟨b,o0,cap,arr,T,fr,fps,rfl,hb,uI,hs,hc,hh,rfl,hl,hr⟩;simp at hx;have Ua:fps[n]?=some fps[n]:=al (by omega);have NU:=HO Ua;refine⟨b,o0,cap,arr,T,fr,(fps.take n).flatten,fps[n],(fps.drop (n+1)).flatten,rfl,hb,hr n x _ hx Ua,by rw[NU.1],?_⟩;refine⟨b,o0,cap,arr,T,fr,fps.set n [],rfl,hb,uI,hs,hc,hh,by rw[NU.2];simp,by simp[hl],PA,by rw[bu];simp[hl,PA],λi x' f hi Fe hf=>?_⟩;rw[aZ (cX hi)]at hf;exact hr i x' f Fe hf
theorem abh {E:Env}(hE:kG P E.ty){o:Oper}(ho:o.op=.load T p)(hg:dN C g st a w []){K:AS->au R}{x:e.D}{i:Int}(hT:jU E.ty T=some sh)(Ab:iD (cP C g st w) (a.eval p) (.HM fl e x i off) [])(hk:ED o sh fl e i off st K=some r):pa P C o a w K r:=by
 unfold ED at hk;split at hk;rename_i ep rt t;obtain⟨_,b,ob,hv,_,_,N9⟩:=Ab;obtain⟨_,n,o0,len,cap,vG,hrt,PA,hob⟩:=N9 rt t rfl;split at hk;rename_i t' e' ys iP;split at hk;rename_i he;subst he;split at hk;rename_i hc;obtain⟨rfl,rfl,SR⟩:=hc;simp only at hk;cases JY:idx ys i with
 |none=>rw[JY]at hk;simp[aa]at hk
 |some y=>
  rw[JY]at hk;simp only[aa]at hk;have hyn:ys[n]?=some y:=by rw[vG]at JY;exact JY
  obtain⟨v0,f2,Mn,Dc,_,nk⟩:=hg.anx rt (by simp) iP;obtain⟨b2,o2,abG,arr,T',fr,f1,fx,f3,SW,kL,N7,HD,arC⟩:=ang Mn.1 hyn;have h1:=(Mn.2 t' rfl).2;have h2:g.hdr t'=.slice (some ⟨b,o0,none⟩) len cap:=hrt;have Vk:v0=g.hdr t':=h1;rw[h2,SW]at Vk;simp only[Value.slice.injEq,bf,Addr.mk.injEq]at Vk;obtain⟨⟨rfl,rfl,_⟩,_⟩:=Vk;have kL:w.heap[b2]?=some (.cells arr T' fr):=kL;have hln:((arr.toList.drop (o2+n*e'.size)).take e'.size).length=e'.size:=eU.length N7;have Fc:∀j u,((arr.toList.drop (o2+n*e'.size)).take e'.size)[j]?=some u->w.cell? ⟨b2,ob+0+j,none⟩=some u:=by intro j u hu;rw[dp]at hu;split at hu;rw[bR,cp]at hu;rw[oX kL,hob,dZ];exact hu;cases hu
  obtain⟨v,ez,eP⟩:=Eo (hE T sh hT) b2 (ob+0) ((arr.toList.drop (o2+n*e'.size)).take e'.size) (by rw[hln,SR]) Fc;have Oa:(execOp a.eval o).run P w=.ok (.value v) w:=by simp only[execOp,ho,hv,Instr.loadAt,Instr.sureAddr,Sem.run_bind,Sem.run_pure,Result.andThen_ok];show((loadVar T ⟨b2,ob+0,none⟩).run P w).andThen _=_;rw[ez];rfl
  rw[HD]at Dc;have xk:=di.1 Dc;have hn3:=xk.2;rw[aX]at hn3;have m1:=aG.1 hn3;have m2:=aG.1 m1.2.1;obtain⟨g',oY⟩:=nk (.sl (.fL (some t') i (some st.ep)) e' ys) (b2::(f1++f3)) fx v (.val sh.agg (cellsOf e' (.own none) y)) (λc' hle TF GH Cw=>by refine⟨λq hq=>?_,⟨n,vG,by rw[TF,GH];exact arC⟩,λt ht=>?_⟩;simp at hq;subst hq;refine⟨by rw[Cw];exact ba _,λ_=>?_⟩;refine eU.rep (hw:=c'.hw) (fp:=f2) (λb o ho=> .inr ho) ?_;rw[TF,GH];exact Mn.1;simp at ht;subst ht;have h0:=Mn.2 t' rfl;exact⟨(hle.hdr t' h0.1).1,by rw[(hle.hdr t' h0.1).2];exact h0.2⟩) (by refine di.2 ⟨λhm=>xk.1 (by rcases aA.1 hm with k|k<;>simp[k]),aG.2 ⟨m1.1,m2.2.1,?_⟩⟩;rintro c hc d hd rfl;exact m1.2.2 c hc c (bh _ hd) rfl) m2.1 (λc hc=>by rw[HD];rcases cq.1 hc with rfl|hc;exact⟨by simp,λhm=>xk.1 (by simp[hm])⟩;rcases aA.1 hc with hc|hc;exact⟨by simp[hc],λhm=>m1.2.2 c hc c (br _ hm) rfl⟩;exact⟨by simp[hc],λhm=>m2.2.2 c hm c hc rfl⟩) (λc hc=>by rw[HD];simp[hc]) ⟨_,eP,wE (c:=cP C g st w) N7⟩;exact⟨_,_,_,.inl Oa,dN.KB oY o.dst,hk⟩
 cases hk;cases hk;cases hk;cases hk
theorem ajO {E:Env}(hE:kG P E.ty){an:An}{o:Oper}(ho:o.op=.load T p)(h:pL C st a w){K:AS->au R}(hk:sC E an o T p st K=some r):pa P C o a w K r:=by
 unfold sC at hk;obtain⟨g,hg⟩:=id h;split at hk;rename_i sh s off hT hp;have Ab:=hg.rd p;rw[hp]at Ab;have Ab:=Ik Ab;split at hk;rename_i cs kW;have kW:st.boxes[s]?=some (some cs):=by rw[dY]at kW;cases hq:st.boxes[s]? with|none=>rw[hq]at kW;simp at kW|some q=>rw[hq]at kW;simp at kW;rw[kW]
 split at hk;rename_i iB;obtain⟨arr,T',fr,fp,kL,uI,hr,hn,xk,hl,LW,Ob⟩:=hg.boxes s cs kW;have hlen:=hr.length;have aad:=XS kL off sh.ct.size;obtain⟨v,ez,eP⟩:=Eo (hE T sh hT) (g.β s) off ((arr.toList.drop off).take sh.ct.size) (by simp at hlen⊢;omega) aad;have Oa:(execOp a.eval o).run P w=.ok (.value v) w:=by simp only[execOp,ho,Ab,Instr.loadAt,Instr.sureAddr,Sem.run_bind,Sem.run_pure,Result.andThen_ok];show((loadVar T ⟨g.β s,off,none⟩).run P w).andThen _=_;rw[ez];rfl
 split at hk;rename_i d hd;split at hk;obtain⟨g',oY⟩:=hg.apu s kW off sh.ct.size iB (gg:=sh.agg) (v:=v) (λaAJ T2 fr2 h2=>by rw[kL]at h2;simp at h2;obtain⟨rfl,_⟩:=h2;exact eP);refine⟨_,_,_,.inl Oa,?_,hk⟩;rw[hd];exact dN.KB oY (some d);refine⟨_,_,_,.inl Oa,?_,hk⟩;rw[hd];refine⟨g,hg.quiet (some d) ⟨_,eP,?_⟩⟩;obtain⟨f1,f2,f3,_,_,r2,_⟩:=hr.mid off sh.ct.size;exact bE.borrow (c:=cP C g st w) (.box s) off r2;cases hk;cases hk;cases hk;rename_i sh fl e x i off hT hp;have Ab:=hg.rd p;rw[hp]at Ab;have Ab:=eI Ab;split at hk;exact abh hE ho hg hT Ab hk;split at hk;rename_i sj;split at hk;rename_i iB
 have key:∃b o cs,a.eval p=.pointer (some ⟨b,o+off,none⟩)/\(∀j v,cs[j]?=some v->w.cell? ⟨b,o+j,none⟩=some v)/\bE (cP C g st w) cs (cellsOf e fl.bare x) []/\
  ∀ep rt t,fl=.loc ep (some (rt,t))->(cP C g st w).iss t/\(∃n o0 len cap:Nat,i=n/\(cP C g st w).hdr t=.slice (some ⟨b,o0,none⟩) len cap/\n<len/\o=o0+n*e.size)/\∀j v,cs[j]?=some v->(cP C g st w).S b (o+j):=by
  cases fl with
  |own t=>exact Ab.elim
  |nest _ _ _ _ _ _=>exact Ab.elim
  |part _ _ _ _=>exact Ab.elim
  |fL _ _ _=>exact Ab.elim
  |arg _=>
   obtain⟨_,b,o,hv,cs,hc,hr⟩:=Ab
   exact⟨b,o,cs,hv,λj v hj=>(hc j v hj).2,M9 hr,λ_ _ _ he=>by cases he⟩
  |loc ep pv=>
   obtain⟨_,b,o,hv,h2,h3,h4⟩:=Ab
   have Cw:ep=st.ep:=by simpa[ux.live]using sj
   obtain⟨cs,hc,hr⟩:=h3 Cw
   exact⟨b,o,cs,hv,λj v hj=>(hc j v hj).2,by simp only[ux.bare];rw[Cw];exact Nu hr,λep' rt t he=>by cases he;obtain⟨k1,k2⟩:=h4 rt t rfl;exact⟨k1,k2,λj v hj=>(hc j v hj).1⟩⟩
 obtain⟨b,ob,cs,hv,hc,ee,HF⟩:=key;have hlen:=ee.length;rw[mF]at hlen;obtain⟨v,ez,eP⟩:=Eo (hE T sh hT) b (ob+off) ((cs.drop off).take sh.ct.size) (by simp;omega) (λj u hu=>by rw[dp]at hu;split at hu;rw[bR]at hu;have:=hc _ _ hu;rwa[<-fZ]at this;cases hu);have Oa:(execOp a.eval o).run P w=.ok (.value v) w:=by simp only[execOp,ho,hv,Instr.loadAt,Instr.sureAddr,Sem.run_bind,Sem.run_pure,Result.andThen_ok];show((loadVar T ⟨b,ob+off,none⟩).run P w).andThen _=_;rw[ez];rfl
 obtain⟨f1,f2,f3,hf,_,r2,_⟩:=ee.mid off sh.ct.size;have JF:f2=[]:=by cases f2 with|nil=>rfl|cons y ys=>simp at hf
 subst JF;refine⟨_,_,_,.inl Oa,⟨g,hg.quiet o.dst ?_⟩,hk⟩;refine⟨_,eP,?_⟩;unfold am8;split;rename_i d _ _ _ _;cases an.nest.contains d with|false=>exact r2|true=>simp only[af];obtain⟨k1,⟨n,o0,len,cap,hi,hh,PA,TH⟩,hS⟩:=HF _ _ _ rfl;refine VU (b:=b) (n:=n) (o0:=o0) (len:=len) (cap:=cap) k1 hi hh PA _ off r2 (λj u hu=>?_);rw[dp]at hu;split at hu;rw[bR]at hu;rw[<-TH];exact⟨hS _ _ hu,hc _ _ hu⟩;cases hu
 exact r2;cases hk;exact ag4 hE ho hg hT Ab hk;cases hk
theorem OC (h:off+vs.length<=cs.length):(dw cs off vs).length=cs.length:=by simp[dw];omega
theorem OE {E:Env}(hE:kG P E.ty){o:Oper}{x:Operand}(hd:o.dst=none)(ho:o.op=.store T p x){K:AS->au R}{s:Nat}{st':AS}{g':Gh}(hT:jU E.ty T=some sh)(Ab:a.eval p=.pointer (some ⟨g'.β s,off,none⟩))(oY:dN C g' st' a w [(a.eval x,.val gg vs)])(kW:(nth st'.boxes s).getD none=some cs)(hlen:vs.length=sh.ct.size)(ams:vs.all AC.QR=true)(iB:off+sh.ct.size<=cs.length)(hk:K (st'.eZ s (some (dw cs off vs)))=some r):pa P C o a w K r:=by
 have kW:st'.boxes[s]?=some (some cs):=by rw[dY]at kW;cases hq:st'.boxes[s]? with|none=>rw[hq]at kW;simp at kW|some q=>rw[hq]at kW;simp at kW;rw[kW]
 obtain⟨arr,T',fr,fp,kL,uI,hr,hn,xk,hl,LW,Ob⟩:=oY.boxes s cs kW;obtain⟨fh,⟨us,eP,hrh⟩,SV,hlh⟩:=oY.hands 0 _ _ rfl;have h1:=hrh.py ams;have hul:=hrh.length;have hal:=hr.length;have apQ:off+us.length<=arr.size:=by simp at hal;omega
 have acv:=KS (P:=P) (w:=w) (hE T sh hT) (g'.β s) off eP (by omega) h1 kL uI apQ;have ez:(execOp a.eval o).run P w=.ok .skip (zB w (g'.β s) (eY arr off us) T' fr):=by simp only[execOp,ho,Ab,Instr.storeAt,Instr.sureAddr,Sem.run_bind,Sem.run_pure,Result.andThen_ok];show((storeVar T ⟨g'.β s,off,none⟩ (a.eval x)).run P w).andThen _=_;rw[acv];rfl
 have LU:=oo kL;obtain⟨f1,f2,f3,rfl,r1,r2,r3⟩:=hr.mid off us.length;have Fq:=hn;rw[aX]at Fq;have n1:=aG.1 Fq;have n2:=aG.1 n1.2.1;have Xb:∀b∈fh,b≠g'.β s/\b∉f1++f2++f3:=by intro b hb;have Ym:=hlh b hb;refine⟨λe=>?_,λhm=>?_⟩;rw[e,LW]at Ym;cases Ym;rw[hl b hm]at Ym;cases Ym
 have aqs:Fr (λb=>dq (g'.eC b)\/b=g'.β s) w (zB w (g'.β s) (eY arr off us) T' fr):=⟨rfl,rfl,rfl,by rw[nG];exact ba _,λb _ hb=>oW (λe=>hb (.inr e))⟩
 have aAs:∀t,(if t=s then g'.β s else g'.β t)=g'.β t:=by intro t;split<;>simp_all
 have hle:(cP C g' st' w).Le ⟨g'.hw,λt=>if t=s then g'.β s else g'.β t,C.A,g'.hdr,nr st',st'.ep,ij st',zB w (g'.β s) (eY arr off us) T' fr⟩:=by
  refine⟨rfl,λ_ ht=>⟨ht,rfl⟩,λk b o u hA hu=>?_,ba _,λt ht=>⟨ht,aAs t⟩,λ_ b o u ho hu=>⟨ho,?_⟩⟩;have JG:b≠g'.β s:=by rintro rfl;exact oY.RX LW k o hA
  rw[World.cell?_of_block (a:=⟨b,o,none⟩) (oW JG)];exact hu;have JG:b≠g'.β s:=by rintro rfl;have TH:o<g'.hw (g'.β s):=ho;rw[Ob]at TH;omega
  rw[World.cell?_of_block (a:=⟨b,o,none⟩) (oW JG)];exact hu
 have nR:∀b,b≠g'.β s->(zB w (g'.β s) (eY arr off us) T' fr).heap[b]?=w.heap[b]?:=λb hb=>oW hb;have ee:bE ⟨g'.hw,λt=>if t=s then g'.β s else g'.β t,C.A,g'.hdr,nr st',st'.ep,ij st',zB w (g'.β s) (eY arr off us) T' fr⟩ (eY arr off us).toList (dw cs off vs) (f1++fh++f3):=by
  rw[BN us arr off apQ];have e2:dw cs off vs=cs.take off++vs++cs.drop (off+us.length):=by simp only[dw];rw[hul]
  rw[e2];refine((r1.mono hle (λb hb=>⟨nR b (λe=>xk (by rw[<-e];simp[hb])),rfl⟩)).append (hrh.mono hle (λb hb=>⟨nR b (Xb b hb).1,rfl⟩))).append (r3.mono hle (λb hb=>⟨nR b (λe=>xk (by rw[<-e];simp[hb])),rfl⟩))
 have aqC:(f1++fh++f3).Nodup:=by rw[aX];refine aG.2 ⟨n1.1,aG.2 ⟨SV,n2.2.1,?_⟩,?_⟩;rintro b hb c hc rfl;exact(Xb b hb).2 (by simp[hc]);rintro b hb c hc rfl;rcases aA.1 hc with hc|hc;exact(Xb b hc).2 (by simp[hb]);exact n1.2.2 b hb b (bh _ hc) rfl
 obtain⟨g2,_,O1⟩:=oY.ae1 s (bnew:=g'.β s) (hw':=g'.hw) (.inl ⟨rfl,LW⟩) aqs (C6 LU) (λj hj=>uI j (by rwa[js]at hj)) (by rw[nG];exact LU) Ob
  (λ_ _ _ _ _=>rfl) (λb o u ho hu=>hle.akj rfl b o u ho hu) ee aqC
  (by intro hm;simp only[aA]at hm
      rcases hm with(hm|hm)|hm
      ·exact xk (by simp[hm])
      ·exact(Xb _ hm).1 rfl
      ·exact xk (by simp[hm]))
  (by intro b hm;rw[nG];simp only[aA]at hm
      rcases hm with(hm|hm)|hm
      ·exact⟨(oY.fW b _ (hl b (by simp[hm]))).1,.inr (.inl (hl b (by simp[hm])))⟩
      ·exact⟨(oY.fW b _ (hlh b hm)).1,.inl (by rw[hlh b hm];rfl)⟩
      ·exact⟨(oY.fW b _ (hl b (by simp[hm]))).1,.inr (.inl (hl b (by simp[hm])))⟩)
 refine⟨undef,_,_,.inr ⟨rfl,ez⟩,?_,hk⟩;rw[hd];exact⟨g2,O1⟩
theorem XC {E:Env}(hE:kG P E.ty){o:Oper}{x:Operand}(hd:o.dst=none)(ho:o.op=.store T p x)(h:pL C st a w){K:AS->au R}{s:Nat}{st':AS}(hT:jU E.ty T=some sh)(hp:st.rd p=.val false [.ptr s off])(xC:st.take x=(.val gg vs,st'))(kW:(nth st'.boxes s).getD none=some cs)(hlen:vs.length=sh.ct.size)(ams:vs.all AC.QR=true)(iB:off+sh.ct.size<=cs.length)(hk:K (st'.eZ s (some (dw cs off vs)))=some r):pa P C o a w K r:=by obtain⟨g,hg⟩:=h;have Ab:=hg.rd p;rw[hp]at Ab;have Ab:=Ik Ab;obtain⟨g',⟨O4,_⟩,oY⟩:=hg.an8 x;rw[xC]at oY;exact OE hE hd ho hT (by rw[O4];exact Ab) oY kW hlen ams iB hk
end Go.Dn
