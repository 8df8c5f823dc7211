import Derived.Test.YtinkcmefgciifaaGreatDnOps1
/- Part 2: loads and stores. -/
namespace Go.Dn
open Go.RowKit
variable {P:Program} {C:Ctx} {st:AS} {a:Act} {w:World} {R:Type} {r:R}
variable {gg:Bool} {e:CT} {fl:qd} {g:Gh} {i:Int} {n off:Nat} {hw:Nat->Nat} {p:Operand} {c:RC} {sh:Shape} {T:TypeId} {v:Value} {cs vs:ax AC} {fp fp0:fy}
theorem bD.mid {vs:iG}{xs:ax AC}(h:bD c vs xs fp)(off n:Nat): ∃f1 f2 f3,fp=f1++f2++f3/\bD c (vs.take off) (xs.take off) f1/\bD c ((vs.drop off).take n) ((xs.drop off).take n) f2/\bD c (vs.drop (off+n)) (xs.drop (off+n)) f3:=by obtain⟨f1,g1,rfl,r1,r2⟩:=h.split off;obtain⟨f2,f3,rfl,r3,r4⟩:=r2.split n;rw[eK,eK]at r4;exact⟨f1,f2,f3,by simp,r1,r3,r4⟩
theorem M9 {w:World}{b:Nat}{arr:Array Value}{fr:Nat×Nat}(hb:w.heap[b]?=some (.cells arr T fr))(off n:Nat): ∀j v,((arr.toList.drop off).take n)[j]?=some v->w.cell? ⟨b,off+j,none⟩=some v:=by intro j v hv;rw[dC]at hv;split at hv;rw[bH,cl]at hv;rw[ox hb];exact hv;cases hv
theorem zK {s:Nat}(h:fX c v (.val false [.ptr s off]) fp):v=.pointer (some ⟨c.β s,off,none⟩):=(eC h).1
theorem dP.agf (h:dP C g st a w [])(s:Nat)(hb:st.boxes[s]?=some (some cs))(off n:Nat)(gF:off+n<=cs.length)(fj:∀arr T fr,w.heap[g.β s]?=some (.cells arr T fr)->Cut gg v ((arr.toList.drop off).take n)): ∃g',dP C g' (st.eI s (some (dZ cs off (aU st.ep ((cs.drop off).take n))))) a w [(v,.val gg ((cs.drop off).take n))]:=by
 obtain⟨arr,T,fr,fp,kb,rz,hr,hn,vd,hl,Fl,Fo⟩:=h.boxes s cs hb;obtain⟨f1,f2,f3,rfl,r1,r2,r3⟩:=hr.mid off n;have BX:=hn;rw[aR]at BX;have n1:=aJ.1 BX;have n2:=aJ.1 n1.2.1;have xD:s<st.boxes.length:=(aG.1 hb).1;let g':Gh:={g with ej:=λb=>if b∈f2 then some (.hand 0) else g.ej b}
 let bN:AS:=st.eI s (some (dZ cs off (aU st.ep ((cs.drop off).take n))));have hle:(cM C g st w).Le (cM C g' bN w):=NW rfl (λ_ _ _ _ _ hv=>hv) (λ_ _=>rfl) (λ_ _ _ ho hu=>⟨ho,hu⟩);have T3:∀b y,g.ej b=some y->b∉f2->g'.ej b=some y:=by intro b y hb hm;show(if b∈f2 then _ else _)=_;rw[aI hm];exact hb
 have Jr:∀b y,y≠ .box s->g.ej b=some y->b∉f2:=λb y hy hb hm=>hy (by have:=hl b (by simp[hm]);rw[hb]at this;simpa using this);refine⟨g',h.step (λy=>y≠ .box s) hle h.defers h.size (by show(st.eI s _).boxes.length=st.slots.length;rw[jY,aC];exact h.bsize) h.frame ?_ (λb y hy hb=>⟨T3 b y hb (Jr b y hy hb),rfl,rfl⟩) ?_ ?_ ?_ (.inl ⟨by simp,rfl⟩)⟩;intro b y hy;have QN:(if b∈f2 then some (jM.hand 0) else g.ej b)=some y:=hy;by_cases hm:b∈f2;exact h.fY b _ (hl b (by simp[hm]));rw[aI hm]at QN;exact h.fY b y QN;exact λi av hi=> .inl ⟨by simp,hi,rfl⟩;intro t qg ht;have T7:(st.boxes.set s (some (dZ cs off (aU st.ep ((cs.drop off).take n)))))[t]?=some (some qg):=by rw[<-jY];exact ht
 by_cases su:t=s;subst su;rw[br]at T7;simp only[bQ,xD]at T7;simp at T7;subst T7;have Hy:dZ cs off (aU st.ep ((cs.drop off).take n))=cs.take off++aU st.ep ((cs.drop off).take n)++cs.drop (off+n):=by simp only[dZ,aU,cb,aW,aM];rw[gV (by omega)]
 refine .inr ⟨arr,T,fr,f1++f3,kb,rz,?_,?_,?_,?_,?_,Fo⟩;have e:arr.toList=arr.toList.take off++(arr.toList.drop off).take n++arr.toList.drop (off+n):=by rw[<-eK,aR,cm,cm]
 have hm1:=r1.mono hle (λb _=>⟨rfl,rfl⟩);have hm2:=(r2.aU).mono hle (by simp);have hm3:=r3.mono hle (λb _=>⟨rfl,rfl⟩);have hm4:=(hm1.append hm2).append hm3;rw[<-e,bS]at hm4;have e3:cs.take off++aU (cM C g st w).ep ((cs.drop off).take n)++cs.drop (off+n)=dZ cs off (aU st.ep ((cs.drop off).take n)):=Hy.symm;rw[e3]at hm4;exact hm4;refine aJ.2 ⟨n1.1,n2.2.1,?_⟩;rintro b hb c hc rfl;exact n1.2.2 b hb b (bj _ hc) rfl;intro hm;have hm':g.β t∈f1++f3:=hm;refine vd ?_;rcases az.1 hm' with k|k;exact bt _ (bt _ k);exact bj _ k;intro b hb;refine T3 b _ (hl b (by simp at hb⊢;rcases hb with hb|hb<;>simp[hb])) ?_;intro hm;rcases az.1 hb with hb|hb;exact n1.2.2 b hb b (bt _ hm) rfl;exact n2.2.2 b hm b hb rfl;refine T3 _ _ Fl (λhm=>vd ?_);have hm':g.β t∈f2:=hm;exact bt _ (bj _ hm');rw[aN (cO su)]at T7;exact .inl ⟨by simpa using su,T7,rfl⟩;intro k u av hk;cases k with
 |zero=>simp only[cv,bc,Prod.mk.injEq]at hk;obtain⟨rfl,rfl⟩:=hk;refine .inr ⟨f2,⟨_,fj arr T fr kb,r2.mono hle (λb _=>⟨rfl,rfl⟩)⟩,n2.1,λb hb=>?_⟩;show(if b∈f2 then _ else _)=_;rw[aH hb]
 |succ k=>simp at hk
theorem gK.header {xs:ax e.D}(r:gK c v (.sl fl e xs) fp):∃o n k,v=.slice o n k/\n=xs.length:=by
 cases fl with
 |own t=>obtain⟨⟨u,hu,h⟩,_⟩:=r;simp at hu;subst hu;rcases h with⟨⟨_,rfl⟩,rfl,_⟩|⟨b,o0,cap,arr,T,fr,fps,rfl,_⟩;exact⟨_,_,_,rfl,rfl⟩;exact⟨_,_,_,rfl,rfl⟩
 |arg _=>obtain⟨_,u,hu,h⟩:=r;simp at hu;subst hu;rcases h with⟨⟨ad,rfl⟩,rfl⟩|⟨b,o,cap,rfl,_⟩;exact⟨_,_,_,rfl,rfl⟩;exact⟨_,_,_,rfl,rfl⟩
 |loc ep pv=>exact r.2.2.1
 |nest _ _ _ _ _ _=>exact r.2.2.1
 |part _ _ _ _=>exact r.2.2.1
 |fi _ _ _=>obtain⟨_,⟨k,_,b,o0,cap,arr,T,fr,fps,rfl,_⟩,_⟩:=r;exact⟨_,_,_,rfl,rfl⟩
theorem Ln {b o0 len cap t:Nat}{rt:ky}{e:CT}(hi:c.iss t)(hn:i=n)(hh:c.hdr t=.slice (some ⟨b,o0,none⟩) len cap)(hl:n<len):∀(cs:ax AC)(p:Nat){vs:iG},bD c vs cs []->
 (∀j u,vs[j]?=some u->c.S b (o0+n*e.size+(p+j))/\c.w.cell? ⟨b,o0+n*e.size+(p+j),none⟩=some u)->bD c vs (P4 c.ep rt t e i p cs) []
 |[],_,vs,h,_=>by cases vs<;>exact h
 |x::cs,p,vs,h,hc=>by
  cases vs with
  |nil=>exact h.elim
  |cons v vs=>
   obtain⟨f1,f2,hf,h1,h2⟩:=h;have e1:f1=[]:=by have:=hf.symm;simp at this;exact this.1
   have e2:f2=[]:=by have:=hf.symm;simp at this;exact this.2
   subst e1;subst e2;have tq:=Ln (rt:=rt) (e:=e) hi hn hh hl cs (p+1) h2 (λj u hu=>by have:=hc (j+1) u (by simpa using hu);rwa[show p+(j+1)=p+1+j by omega]at this);have hv:=hc 0 v rfl;cases x with|sl fl e' xs=>refine⟨[],[],rfl,⟨rfl,aS _,?_,λ_=>⟨hi,n,b,o0,len,cap,hn,hh,hl,?_,?_⟩⟩,tq⟩;exact gK.header h1;have:=hv.1;rwa[dT]at this;have:=hv.2;rwa[dT]at this|int _ _=>exact⟨[],[],rfl,h1,tq⟩|bool _=>exact⟨[],[],rfl,h1,tq⟩|str _=>exact⟨[],[],rfl,h1,tq⟩|jB=>exact⟨[],[],rfl,h1,tq⟩|ptr _ _=>exact⟨[],[],rfl,h1,tq⟩|zX _ _ _ _ _=>exact⟨[],[],rfl,h1,tq⟩|fn _=>exact⟨[],[],rfl,h1,tq⟩|un=>exact⟨[],[],rfl,h1,tq⟩|bot=>exact⟨[],[],rfl,h1,tq⟩
theorem aiC {w:World}{xs:ax e.D}(h:fg hw w (.sl e) [v] xs fp0){x:e.D}(hx:xs[n]?=some x): ∃b o0 cap arr T fr fx,v=.slice (some ⟨b,o0,none⟩) xs.length cap/\w.heap[b]?=some (.cells arr T fr)/\fg hw w e ((arr.toList.drop (o0+n*e.size)).take e.size) x fx:=by obtain⟨u,hu,h⟩:=h;simp at hu;subst hu;have IG:n<xs.length:=(aG.1 hx).1;rcases h with⟨⟨_,rfl⟩,rfl,rfl⟩|⟨b,o0,cap,arr,T,fr,fps,rfl,hb,rz,hs,hc,hh,rfl,hl,hr⟩;simp at hx;have RQ:fps[n]?=some fps[n]:=aq (by omega);exact⟨b,o0,cap,arr,T,fr,_,rfl,hb,hr n x _ hx RQ⟩
theorem W2 {E:Env}(hE:jk P E.ty){o:Oper}(ho:o.op=.load T p)(hg:dP C g st a w []){K:AS->ay R}{x:e.D}(hT:ja E.ty T=some sh)(tG:gK (cM C g st w) (a.eval p) (.zX fl e x i off) [])(hk:BD o sh fl e i off st K=some r):mz P C o a w K r:=by
 unfold BD at hk;split at hk;rename_i ep rt t;obtain⟨_,b,ob,hv,_,_,Ed⟩:=tG;obtain⟨_,n,o0,len,cap,ta,hrt,IG,hob⟩:=Ed rt t rfl;split at hk;rename_i t' e' ys gS;split at hk;rename_i he;subst he;split at hk;rename_i hc;obtain⟨rfl,gF⟩:=hc;simp only at hk;cases CE:idx ys i with
 |none=>rw[CE]at hk;simp[aa]at hk
 |some y=>
  rw[CE]at hk;simp only[aa]at hk;have hyn:ys[n]?=some y:=by rw[ta]at CE;exact CE
  obtain⟨v0,f2,hh,gO,_,_,_⟩:=hg.Qg rt gS;obtain⟨b2,o2,Uu,arr,T',fr,fx,KW,kb,KS⟩:=aiC gO hyn;have h1:=hh t' rfl;have h2:g.hdr t'=.slice (some ⟨b,o0,none⟩) len cap:=hrt;rw[h2,KW]at h1;simp only[Value.slice.injEq,bc,Addr.mk.injEq]at h1;obtain⟨⟨rfl,rfl,_⟩,_⟩:=h1;have hln:((arr.toList.drop (o2+n*e'.size)).take e'.size).length=e'.size:=fg.length KS;have FY:jc w (cM C g st w).S e' ((arr.toList.drop (o2+n*e'.size)).take e'.size) y:=fg.rep (λb o ho=> .inr ho) KS;have eQ:bD (cM C g st w) ((arr.toList.drop (o2+n*e'.size)).take e'.size) (cellsOf e' (.loc st.ep none) y) []:=DL (c:=cM C g st w) FY;have Au:∀j u,((((arr.toList.drop (o2+n*e'.size)).take e'.size).drop off).take sh.ct.size)[j]?=some u->w.cell? ⟨b2,ob+off+j,none⟩=some u:=by intro j u hu;rw[dC]at hu;split at hu;rw[bH,dC]at hu;split at hu;rw[bH,cl]at hu;rw[ox kb,hob,fD];exact hu;cases hu;cases hu
  obtain⟨v,ed,fj⟩:=wM (hE T sh hT) b2 (ob+off) ((((arr.toList.drop (o2+n*e'.size)).take e'.size).drop off).take sh.ct.size) (by simp only[aW,aM]at hln⊢;omega) Au;have Ee:(execOp a.eval o).run P w=.ok (.value v) w:=by simp only[execOp,ho,hv,Instr.loadAt,Instr.sureAddr,Sem.run_bind,Sem.run_pure,Result.andThen_ok];show((loadVar T ⟨b2,ob+off,none⟩).run P w).andThen _=_;rw[ed];rfl
  obtain⟨f1,f2',f3,hf,_,r2,_⟩:=eQ.mid off sh.ct.size;have Bf:f2'=[]:=by cases f2' with|nil=>rfl|cons y ys=>simp at hf
  subst Bf;refine⟨_,_,_,.inl Ee,⟨g,hg.quiet o.dst ?_⟩,hk⟩;exact⟨_,fj,r2⟩
 cases hk;cases hk;cases hk;cases hk
theorem Cw {fps:ax fy}{f:fy}(h:fps[n]?=some f): fps.flatten=(fps.take n).flatten++f++(fps.drop (n+1)).flatten/\∀f',(fps.set n f').flatten=(fps.take n).flatten++f'++(fps.drop (n+1)).flatten:=by
 have hn:n<fps.length:=(aG.1 h).1;have hf:fps[n]=f:=by rw[aq hn]at h;simpa using h
 constructor
 ·conv=>lhs;rw[<-cm n fps,bO hn,hf]
  simp
 intro f';rw[List.set_eq_take_append_cons_drop,aH hn];simp
theorem adH {w:World}{xs:ax e.D}(h:fg hw w (.sl e) [v] xs fp0){x:e.D}(hx:xs[n]?=some x): ∃b o0 cap arr T fr f1 fx f3,v=.slice (some ⟨b,o0,none⟩) xs.length cap/\w.heap[b]?=some (.cells arr T fr)/\fg hw w e ((arr.toList.drop (o0+n*e.size)).take e.size) x fx/\ fp0=b::(f1++fx++f3)/\abt hw w e v xs n (b::(f1++f3)):=by obtain⟨u,hu,h⟩:=h;simp at hu;subst hu;have IG:n<xs.length:=(aG.1 hx).1;rcases h with⟨⟨_,rfl⟩,rfl,rfl⟩|⟨b,o0,cap,arr,T,fr,fps,rfl,hb,rz,hs,hc,hh,rfl,hl,hr⟩;simp at hx;have RQ:fps[n]?=some fps[n]:=aq (by omega);have Fk:=Cw RQ;refine⟨b,o0,cap,arr,T,fr,(fps.take n).flatten,fps[n],(fps.drop (n+1)).flatten,rfl,hb,hr n x _ hx RQ,by rw[Fk.1],?_⟩;refine⟨b,o0,cap,arr,T,fr,fps.set n [],rfl,hb,rz,hs,hc,hh,by rw[Fk.2];simp,by simp[hl],IG,by rw[br];simp[hl,IG],λi x' f hi Ab hf=>?_⟩;rw[aN (cO hi)]at hf;exact hr i x' f Ab hf
theorem QD {E:Env}(hE:jk P E.ty){o:Oper}(ho:o.op=.load T p)(hg:dP C g st a w []){K:AS->ay R}{x:e.D}(hT:ja E.ty T=some sh)(tG:gK (cM C g st w) (a.eval p) (.zX fl e x i off) [])(hk:wV o sh fl e i off st K=some r):mz P C o a w K r:=by
 unfold wV at hk;split at hk;rename_i ep rt t;obtain⟨_,b,ob,hv,_,_,Ed⟩:=tG;obtain⟨_,n,o0,len,cap,ta,hrt,IG,hob⟩:=Ed rt t rfl;split at hk;rename_i t' e' ys gS;split at hk;rename_i he;subst he;split at hk;rename_i hc;obtain⟨rfl,rfl,ID⟩:=hc;simp only at hk;cases CE:idx ys i with
 |none=>rw[CE]at hk;simp[aa]at hk
 |some y=>
  rw[CE]at hk;simp only[aa]at hk;have hyn:ys[n]?=some y:=by rw[ta]at CE;exact CE
  obtain⟨v0,f2,NG,Cc,_,qc⟩:=hg.adX rt (by simp) gS;obtain⟨b2,o2,Uu,arr,T',fr,f1,fx,f3,KW,kb,KS,BU,ajH⟩:=adH NG.1 hyn;have h1:=(NG.2 t' rfl).2;have h2:g.hdr t'=.slice (some ⟨b,o0,none⟩) len cap:=hrt;have Ml:v0=g.hdr t':=h1;rw[h2,KW]at Ml;simp only[Value.slice.injEq,bc,Addr.mk.injEq]at Ml;obtain⟨⟨rfl,rfl,_⟩,_⟩:=Ml;have kb:w.heap[b2]?=some (.cells arr T' fr):=kb;have hln:((arr.toList.drop (o2+n*e'.size)).take e'.size).length=e'.size:=fg.length KS;have Au:∀j u,((arr.toList.drop (o2+n*e'.size)).take e'.size)[j]?=some u->w.cell? ⟨b2,ob+0+j,none⟩=some u:=by intro j u hu;rw[dC]at hu;split at hu;rw[bH,cl]at hu;rw[ox kb,hob,dT];exact hu;cases hu
  obtain⟨v,ed,fj⟩:=wM (hE T sh hT) b2 (ob+0) ((arr.toList.drop (o2+n*e'.size)).take e'.size) (by rw[hln,ID]) Au;have Ee:(execOp a.eval o).run P w=.ok (.value v) w:=by simp only[execOp,ho,hv,Instr.loadAt,Instr.sureAddr,Sem.run_bind,Sem.run_pure,Result.andThen_ok];show((loadVar T ⟨b2,ob+0,none⟩).run P w).andThen _=_;rw[ed];rfl
  rw[BU]at Cc;have vd:=dc.1 Cc;have hn3:=vd.2;rw[aR]at hn3;have m1:=aJ.1 hn3;have m2:=aJ.1 m1.2.1;obtain⟨g',nE⟩:=qc (.sl (.fi (some t') i (some st.ep)) e' ys) (b2::(f1++f3)) fx v (.val sh.agg (cellsOf e' (.own none) y)) (λc' hle QL D0 xh=>by refine⟨λq hq=>?_,⟨n,ta,by rw[QL,D0];exact ajH⟩,λt ht=>?_⟩;simp at hq;subst hq;refine⟨by rw[xh];exact aS _,λ_=>?_⟩;refine fg.rep (hw:=c'.hw) (fp:=f2) (λb o ho=> .inr ho) ?_;rw[QL,D0];exact NG.1;simp at ht;subst ht;have h0:=NG.2 t' rfl;exact⟨(hle.hdr t' h0.1).1,by rw[(hle.hdr t' h0.1).2];exact h0.2⟩) (by refine dc.2 ⟨λhm=>vd.1 (by rcases az.1 hm with k|k<;>simp[k]),aJ.2 ⟨m1.1,m2.2.1,?_⟩⟩;rintro c hc d hd rfl;exact m1.2.2 c hc c (bj _ hd) rfl) m2.1 (λc hc=>by rw[BU];rcases cn.1 hc with rfl|hc;exact⟨by simp,λhm=>vd.1 (by simp[hm])⟩;rcases az.1 hc with hc|hc;exact⟨by simp[hc],λhm=>m1.2.2 c hc c (bt _ hm) rfl⟩;exact⟨by simp[hc],λhm=>m2.2.2 c hm c hc rfl⟩) (λc hc=>by rw[BU];simp[hc]) ⟨_,fj,yt (c:=cM C g st w) KS⟩;exact⟨_,_,_,.inl Ee,dP.Bw nE o.dst,hk⟩
 cases hk;cases hk;cases hk;cases hk
theorem ZZ {E:Env}(hE:jk P E.ty){an:An}{o:Oper}(ho:o.op=.load T p)(h:ij C st a w){K:AS->ay R}(hk:oG E an o T p st K=some r):mz P C o a w K r:=by
 unfold oG at hk;obtain⟨g,hg⟩:=id h;split at hk;rename_i sh s off hT hp;have tG:=hg.rd p;rw[hp]at tG;have tG:=zK tG;split at hk;rename_i cs jH;have jH:st.boxes[s]?=some (some cs):=by rw[dK]at jH;cases hq:st.boxes[s]? with|none=>rw[hq]at jH;simp at jH|some q=>rw[hq]at jH;simp at jH;rw[jH]
 split at hk;rename_i gF;obtain⟨arr,T',fr,fp,kb,rz,hr,hn,vd,hl,Fl,Fo⟩:=hg.boxes s cs jH;have hlen:=hr.length;have ahI:=M9 kb off sh.ct.size;obtain⟨v,ed,fj⟩:=wM (hE T sh hT) (g.β s) off ((arr.toList.drop off).take sh.ct.size) (by simp at hlen⊢;omega) ahI;have Ee:(execOp a.eval o).run P w=.ok (.value v) w:=by simp only[execOp,ho,tG,Instr.loadAt,Instr.sureAddr,Sem.run_bind,Sem.run_pure,Result.andThen_ok];show((loadVar T ⟨g.β s,off,none⟩).run P w).andThen _=_;rw[ed];rfl
 split at hk;rename_i d hd;split at hk;obtain⟨g',nE⟩:=hg.agf s jH off sh.ct.size gF (gg:=sh.agg) (v:=v) (λao6 T2 fr2 h2=>by rw[kb]at h2;simp at h2;obtain⟨rfl,_⟩:=h2;exact fj);refine⟨_,_,_,.inl Ee,?_,hk⟩;rw[hd];exact dP.Bw nE (some d);refine⟨_,_,_,.inl Ee,?_,hk⟩;rw[hd];refine⟨g,hg.quiet (some d) ⟨_,fj,?_⟩⟩;obtain⟨f1,f2,f3,_,_,r2,_⟩:=hr.mid off sh.ct.size;exact bD.borrow (c:=cM C g st w) (.box s) off r2;cases hk;cases hk;cases hk;rename_i sh fl e x i off hT hp;have tG:=hg.rd p;rw[hp]at tG;have tG:=eC tG;split at hk;exact QD hE ho hg hT tG hk;split at hk;rename_i oz;split at hk;rename_i gF
 have key:∃b o cs,a.eval p=.pointer (some ⟨b,o+off,none⟩)/\(∀j v,cs[j]?=some v->w.cell? ⟨b,o+j,none⟩=some v)/\bD (cM C g st w) cs (cellsOf e fl.bare x) []/\
  ∀ep rt t,fl=.loc ep (some (rt,t))->(cM C g st w).iss t/\(∃n o0 len cap:Nat,i=n/\(cM C g st w).hdr t=.slice (some ⟨b,o0,none⟩) len cap/\n<len/\o=o0+n*e.size)/\∀j v,cs[j]?=some v->(cM C g st w).S b (o+j):=by
  cases fl with
  |own t=>exact tG.elim
  |nest _ _ _ _ _ _=>exact tG.elim
  |part _ _ _ _=>exact tG.elim
  |fi _ _ _=>exact tG.elim
  |arg _=>
   obtain⟨_,b,o,hv,cs,hc,hr⟩:=tG
   exact⟨b,o,cs,hv,λj v hj=>(hc j v hj).2,Dm hr,λ_ _ _ he=>by cases he⟩
  |loc ep pv=>
   obtain⟨_,b,o,hv,h2,h3,h4⟩:=tG
   have xh:ep=st.ep:=by simpa[qd.live]using oz
   obtain⟨cs,hc,hr⟩:=h3 xh
   exact⟨b,o,cs,hv,λj v hj=>(hc j v hj).2,by simp only[qd.bare];rw[xh];exact DL hr,λep' rt t he=>by cases he;obtain⟨k1,k2⟩:=h4 rt t rfl;exact⟨k1,k2,λj v hj=>(hc j v hj).1⟩⟩
 obtain⟨b,ob,cs,hv,hc,eQ,DC⟩:=key;have hlen:=eQ.length;rw[kK]at hlen;obtain⟨v,ed,fj⟩:=wM (hE T sh hT) b (ob+off) ((cs.drop off).take sh.ct.size) (by simp;omega) (λj u hu=>by rw[dC]at hu;split at hu;rw[bH]at hu;have:=hc _ _ hu;rwa[<-fD]at this;cases hu);have Ee:(execOp a.eval o).run P w=.ok (.value v) w:=by simp only[execOp,ho,hv,Instr.loadAt,Instr.sureAddr,Sem.run_bind,Sem.run_pure,Result.andThen_ok];show((loadVar T ⟨b,ob+off,none⟩).run P w).andThen _=_;rw[ed];rfl
 obtain⟨f1,f2,f3,hf,_,r2,_⟩:=eQ.mid off sh.ct.size;have Bf:f2=[]:=by cases f2 with|nil=>rfl|cons y ys=>simp at hf
 subst Bf;refine⟨_,_,_,.inl Ee,⟨g,hg.quiet o.dst ?_⟩,hk⟩;refine⟨_,fj,?_⟩;unfold ady;split;rename_i d _ _ _ _;cases an.nest.contains d with|false=>exact r2|true=>simp only[ah];obtain⟨k1,⟨n,o0,len,cap,hi,hh,IG,Js⟩,hS⟩:=DC _ _ _ rfl;refine Ln (b:=b) (n:=n) (o0:=o0) (len:=len) (cap:=cap) k1 hi hh IG _ off r2 (λj u hu=>?_);rw[dC]at hu;split at hu;rw[bH]at hu;rw[<-Js];exact⟨hS _ _ hu,hc _ _ hu⟩;cases hu
 exact r2;cases hk;exact W2 hE ho hg hT tG hk;cases hk
theorem Eu (h:off+vs.length<=cs.length):(dZ cs off vs).length=cs.length:=by simp[dZ];omega
theorem Ew {E:Env}(hE:jk P E.ty){o:Oper}{x:Operand}(hd:o.dst=none)(ho:o.op=.store T p x){K:AS->ay R}{s:Nat}{bN:AS}{g':Gh}(hT:ja E.ty T=some sh)(tG:a.eval p=.pointer (some ⟨g'.β s,off,none⟩))(nE:dP C g' bN a w [(a.eval x,.val gg vs)])(jH:(nth bN.boxes s).getD none=some cs)(hlen:vs.length=sh.ct.size)(acZ:vs.all AC.GN=true)(gF:off+sh.ct.size<=cs.length)(hk:K (bN.eI s (some (dZ cs off vs)))=some r):mz P C o a w K r:=by
 have jH:bN.boxes[s]?=some (some cs):=by rw[dK]at jH;cases hq:bN.boxes[s]? with|none=>rw[hq]at jH;simp at jH|some q=>rw[hq]at jH;simp at jH;rw[jH]
 obtain⟨arr,T',fr,fp,kb,rz,hr,hn,vd,hl,Fl,Fo⟩:=nE.boxes s cs jH;obtain⟨fh,⟨us,fj,T6⟩,Mm,RT⟩:=nE.hands 0 _ _ rfl;have h1:=T6.mN acZ;have hul:=T6.length;have hal:=hr.length;have agF:off+us.length<=arr.size:=by simp at hal;omega
 have RZ:=BF (P:=P) (w:=w) (hE T sh hT) (g'.β s) off fj (by omega) h1 kb rz agF;have ed:(execOp a.eval o).run P w=.ok .skip (th w (g'.β s) (eF arr off us) T' fr):=by simp only[execOp,ho,tG,Instr.storeAt,Instr.sureAddr,Sem.run_bind,Sem.run_pure,Result.andThen_ok];show((storeVar T ⟨g'.β s,off,none⟩ (a.eval x)).run P w).andThen _=_;rw[RZ];rfl
 have Eb:=lP kb;obtain⟨f1,f2,f3,rfl,r1,r2,r3⟩:=hr.mid off us.length;have BX:=hn;rw[aR]at BX;have n1:=aJ.1 BX;have n2:=aJ.1 n1.2.1;have Mx:∀b∈fh,b≠g'.β s/\b∉f1++f2++f3:=by intro b hb;have NC:=RT b hb;refine⟨λe=>?_,λhm=>?_⟩;rw[e,Fl]at NC;cases NC;rw[hl b hm]at NC;cases NC
 have ahA:Fr (λb=>dG (g'.ej b)\/b=g'.β s) w (th w (g'.β s) (eF arr off us) T' fr):=⟨rfl,rfl,rfl,by rw[lz];exact aS _,λb _ hb=>mx (λe=>hb (.inr e))⟩
 have aoE:∀t,(if t=s then g'.β s else g'.β t)=g'.β t:=by intro t;split<;>simp_all
 have hle:(cM C g' bN w).Le ⟨g'.hw,λt=>if t=s then g'.β s else g'.β t,C.A,g'.hdr,mC bN,bN.ep,jb bN,th w (g'.β s) (eF arr off us) T' fr⟩:=by
  refine⟨rfl,λ_ ht=>⟨ht,rfl⟩,λk b o u hA hu=>?_,aS _,λt ht=>⟨ht,aoE t⟩,λ_ b o u ho hu=>⟨ho,?_⟩⟩;have Al:b≠g'.β s:=by rintro rfl;exact nE.Lc Fl k o hA
  rw[World.cell?_of_block (a:=⟨b,o,none⟩) (mx Al)];exact hu;have Al:b≠g'.β s:=by rintro rfl;have Js:o<g'.hw (g'.β s):=ho;rw[Fo]at Js;omega
  rw[World.cell?_of_block (a:=⟨b,o,none⟩) (mx Al)];exact hu
 have rJ:∀b,b≠g'.β s->(th w (g'.β s) (eF arr off us) T' fr).heap[b]?=w.heap[b]?:=λb hb=>mx hb;have eQ:bD ⟨g'.hw,λt=>if t=s then g'.β s else g'.β t,C.A,g'.hdr,mC bN,bN.ep,jb bN,th w (g'.β s) (eF arr off us) T' fr⟩ (eF arr off us).toList (dZ cs off vs) (f1++fh++f3):=by
  rw[uw us arr off agF];have e2:dZ cs off vs=cs.take off++vs++cs.drop (off+us.length):=by simp only[dZ];rw[hul]
  rw[e2];refine((r1.mono hle (λb hb=>⟨rJ b (λe=>vd (by rw[<-e];simp[hb])),rfl⟩)).append (T6.mono hle (λb hb=>⟨rJ b (Mx b hb).1,rfl⟩))).append (r3.mono hle (λb hb=>⟨rJ b (λe=>vd (by rw[<-e];simp[hb])),rfl⟩))
 have ahM:(f1++fh++f3).Nodup:=by rw[aR];refine aJ.2 ⟨n1.1,aJ.2 ⟨Mm,n2.2.1,?_⟩,?_⟩;rintro b hb c hc rfl;exact(Mx b hb).2 (by simp[hc]);rintro b hb c hc rfl;rcases az.1 hc with hc|hc;exact(Mx b hc).2 (by simp[hb]);exact n1.2.2 b hb b (bj _ hc) rfl
 obtain⟨g2,_,ET⟩:=nE.Uo s (bnew:=g'.β s) (hw':=g'.hw) (.inl ⟨rfl,Fl⟩) ahA (vD Eb) (λj hj=>rz j (by rwa[iz]at hj)) (by rw[lz];exact Eb) Fo
  (λ_ _ _ _ _=>rfl) (λb o u ho hu=>hle.aaA rfl b o u ho hu) eQ ahM
  (by intro hm;simp only[az]at hm
      rcases hm with(hm|hm)|hm
      ·exact vd (by simp[hm])
      ·exact(Mx _ hm).1 rfl
      ·exact vd (by simp[hm]))
  (by intro b hm;rw[lz];simp only[az]at hm
      rcases hm with(hm|hm)|hm
      ·exact⟨(nE.fY b _ (hl b (by simp[hm]))).1,.inr (.inl (hl b (by simp[hm])))⟩
      ·exact⟨(nE.fY b _ (RT b hm)).1,.inl (by rw[RT b hm];rfl)⟩
      ·exact⟨(nE.fY b _ (hl b (by simp[hm]))).1,.inr (.inl (hl b (by simp[hm])))⟩)
 refine⟨undef,_,_,.inr ⟨rfl,ed⟩,?_,hk⟩;rw[hd];exact⟨g2,ET⟩
theorem MX {E:Env}(hE:jk P E.ty){o:Oper}{x:Operand}(hd:o.dst=none)(ho:o.op=.store T p x)(h:ij C st a w){K:AS->ay R}{s:Nat}{bN:AS}(hT:ja E.ty T=some sh)(hp:st.rd p=.val false [.ptr s off])(rK:st.take x=(.val gg vs,bN))(jH:(nth bN.boxes s).getD none=some cs)(hlen:vs.length=sh.ct.size)(acZ:vs.all AC.GN=true)(gF:off+sh.ct.size<=cs.length)(hk:K (bN.eI s (some (dZ cs off vs)))=some r):mz P C o a w K r:=by obtain⟨g,hg⟩:=h;have tG:=hg.rd p;rw[hp]at tG;have tG:=zK tG;obtain⟨g',⟨Hz,_⟩,nE⟩:=hg.aeG x;rw[rK]at nE;exact Ew hE hd ho hT (by rw[Hz];exact tG) nE jH hlen acZ gF hk
end Go.Dn
