import Derived.Test.YtfbhfnniblfpbaaGreatDnOps1
/- Part 2: loads and stores. -/
namespace Go.Dn
open Go.RowKit
variable {P:Program} {C:Ctx} {st:AS} {a:Act} {w:World} {R:Type} {r:R}
variable {gg:Bool} {e:CT} {fl:qt} {g:Gh} {off:Nat} {hw:Nat->Nat} {p:Operand} {c:RC} {sh:Shape} {T:TypeId} {cs vs:au AC} {fp Zr:dI}
theorem bp.mid {vs:gP}{xs:au AC}(h:bp c vs xs fp)(off n:Nat): ∃f1 f2 f3,fp=f1++f2++f3/\bp c (vs.take off) (xs.take off) f1/\bp c ((vs.drop off).take n) ((xs.drop off).take n) f2/\bp c (vs.drop (off+n)) (xs.drop (off+n)) f3:=by obtain⟨f1,g1,rfl,r1,r2⟩:=h.split off;obtain⟨f2,f3,rfl,r3,r4⟩:=r2.split n;rw[dJ,dJ]at r4;exact⟨f1,f2,f3,by simp,r1,r3,r4⟩
theorem QC {w:World}{b:Nat}{arr:Array Value}{fr:Nat×Nat}(hb:w.heap[b]?=some (.cells arr T fr))(off n:Nat): ∀j v,((arr.toList.drop off).take n)[j]?=some v->w.cell? ⟨b,off+j,none⟩=some v:=by intro j v hv;rw[cP]at hv;split at hv;rw[bH,bZ]at hv;rw[mH hb];exact hv;cases hv
theorem CM {v:Value}{s:Nat}(h:fy c v (.val false [.ptr s off]) fp):v=.pointer (some ⟨c.β s,off,none⟩):=(dE h).1
theorem dk.af8 (h:dk C g st a w [])(s:Nat)(hb:st.boxes[s]?=some (some cs))(off n:Nat)(gk:off+n<=cs.length){v:Value}(dM:∀arr T fr,w.heap[g.β s]?=some (.cells arr T fr)->Cut gg v ((arr.toList.drop off).take n)): ∃g',dk C g' (st.ed s (some (cS cs off (aS st.ep ((cs.drop off).take n))))) a w [(v,.val gg ((cs.drop off).take n))]:=by
 obtain⟨arr,T,fr,fp,jh,qG,hr,hn,sO,hl,Gg,HV⟩:=h.boxes s cs hb;obtain⟨f1,f2,f3,rfl,r1,r2,r3⟩:=hr.mid off n;have Bm:=hn;rw[aP]at Bm;have n1:=aB.1 Bm;have n2:=aB.1 n1.2.1;have xq:s<st.boxes.length:=(aD.1 hb).1;let g':Gh:={g with dB:=λb=>if b∈f2 then some (.hand 0) else g.dB b}
 let st':AS:=st.ed s (some (cS cs off (aS st.ep ((cs.drop off).take n))));have hle:(cq C g st w).Le (cq C g' st' w):=Rl rfl (λ_ _ _ _ _ hv=>hv) (λ_ _=>rfl) (λ_ _ _ ho hu=>⟨ho,hu⟩);have WL:∀b y,g.dB b=some y->b∉f2->g'.dB b=some y:=by intro b y hb hm;show(if b∈f2 then _ else _)=_;rw[aE hm];exact hb
 have ME:∀b y,y≠ .box s->g.dB b=some y->b∉f2:=λb y hy hb hm=>hy (by have:=hl b (by simp[hm]);rw[hb]at this;simpa using this);refine⟨g',h.step (λy=>y≠ .box s) hle h.defers h.size (by show(st.ed s _).boxes.length=st.slots.length;rw[kb,aJ];exact h.bsize) h.frame ?_ (λb y hy hb=>⟨WL b y hb (ME b y hy hb),rfl,rfl⟩) ?_ ?_ ?_ (.inl ⟨by simp,rfl⟩)⟩;intro b y hy;have Q1:(if b∈f2 then some (iT.hand 0) else g.dB b)=some y:=hy;by_cases hm:b∈f2;exact h.fa b _ (hl b (by simp[hm]));rw[aE hm]at Q1;exact h.fa b y Q1;exact λi av hi=> .inl ⟨by simp,hi,rfl⟩;intro t mK ht;have TV:(st.boxes.set s (some (cS cs off (aS st.ep ((cs.drop off).take n)))))[t]?=some (some mK):=by rw[<-kb];exact ht
 by_cases qH:t=s;subst qH;rw[bk]at TV;simp only[bN,xq]at TV;simp at TV;subst TV;have Jt:cS cs off (aS st.ep ((cs.drop off).take n))=cs.take off++aS st.ep ((cs.drop off).take n)++cs.drop (off+n):=by simp only[cS,aS,cj,bn,bh];rw[iI (by omega)]
 refine .inr ⟨arr,T,fr,f1++f3,jh,qG,?_,?_,?_,?_,?_,HV⟩;have e:arr.toList=arr.toList.take off++(arr.toList.drop off).take n++arr.toList.drop (off+n):=by rw[<-dJ,aP,cf,cf]
 have hm1:=r1.mono hle (λb _=>⟨rfl,rfl⟩);have Zx:=(r2.aS).mono hle (by simp);have hm3:=r3.mono hle (λb _=>⟨rfl,rfl⟩);have hm4:=(hm1.append Zx).append hm3;rw[<-e,br]at hm4;have e3:cs.take off++aS (cq C g st w).ep ((cs.drop off).take n)++cs.drop (off+n)=cS cs off (aS st.ep ((cs.drop off).take n)):=Jt.symm;rw[e3]at hm4;exact hm4;refine aB.2 ⟨n1.1,n2.2.1,?_⟩;rintro b hb c hc rfl;exact n1.2.2 b hb b (ba _ hc) rfl;intro hm;have hm':g.β t∈f1++f3:=hm;refine sO ?_;rcases ay.1 hm' with k|k;exact bj _ (bj _ k);exact ba _ k;intro b hb;refine WL b _ (hl b (by simp at hb⊢;rcases hb with hb|hb<;>simp[hb])) ?_;intro hm;rcases ay.1 hb with hb|hb;exact n1.2.2 b hb b (bj _ hm) rfl;exact n2.2.2 b hm b hb rfl;refine WL _ _ Gg (λhm=>sO ?_);have hm':g.β t∈f2:=hm;exact bj _ (ba _ hm');rw[aN (cD qH)]at TV;exact .inl ⟨by simpa using qH,TV,rfl⟩;intro k u av hk;cases k with
 |zero=>simp only[ch,aZ,Prod.mk.injEq]at hk;obtain⟨rfl,rfl⟩:=hk;refine .inr ⟨f2,⟨_,dM arr T fr jh,r2.mono hle (λb _=>⟨rfl,rfl⟩)⟩,n2.1,λb hb=>?_⟩;show(if b∈f2 then _ else _)=_;rw[aF hb]
 |succ k=>simp at hk
theorem gr.header {v:Value}{xs:au e.D}(r:gr c v (.sl fl e xs) fp):∃o n k,v=.slice o n k/\n=xs.length:=by
 cases fl with
 |own t=>obtain⟨⟨u,hu,h⟩,_⟩:=r;simp at hu;subst hu;rcases h with⟨⟨_,rfl⟩,rfl,_⟩|⟨b,o0,cap,arr,T,fr,fps,rfl,_⟩;exact⟨_,_,_,rfl,rfl⟩;exact⟨_,_,_,rfl,rfl⟩
 |arg _=>obtain⟨_,u,hu,h⟩:=r;simp at hu;subst hu;rcases h with⟨⟨ad,rfl⟩,rfl⟩|⟨b,o,cap,rfl,_⟩;exact⟨_,_,_,rfl,rfl⟩;exact⟨_,_,_,rfl,rfl⟩
 |loc ep pv=>exact r.2.2.1
 |nest _ _ _ _ _ _=>exact r.2.2.1
 |part _ _ _ _=>exact r.2.2.1
 |eQ _ _ _=>obtain⟨_,⟨k,_,b,o0,cap,arr,T,fr,fps,rfl,_⟩,_⟩:=r;exact⟨_,_,_,rfl,rfl⟩
theorem OH {b n o0 len cap t:Nat}{rt:ka}{e:CT}{i:Int}(hi:c.iss t)(hn:i=n)(hh:c.hdr t=.slice (some ⟨b,o0,none⟩) len cap)(hl:n<len):∀(cs:au AC)(p:Nat){vs:gP},bp c vs cs []->
 (∀j u,vs[j]?=some u->c.S b (o0+n*e.size+(p+j))/\c.w.cell? ⟨b,o0+n*e.size+(p+j),none⟩=some u)->bp c vs (S9 c.ep rt t e i p cs) []
 |[],_,vs,h,_=>by cases vs<;>exact h
 |x::cs,p,vs,h,hc=>by
  cases vs with
  |nil=>exact h.elim
  |cons v vs=>
   obtain⟨f1,f2,hf,h1,h2⟩:=h;have e1:f1=[]:=by have:=hf.symm;simp at this;exact this.1
   have e2:f2=[]:=by have:=hf.symm;simp at this;exact this.2
   subst e1;subst e2;have ji:=OH (rt:=rt) (e:=e) hi hn hh hl cs (p+1) h2 (λj u hu=>by have:=hc (j+1) u (by simpa using hu);rwa[show p+(j+1)=p+1+j by omega]at this);have hv:=hc 0 v rfl;cases x with|sl fl e' xs=>refine⟨[],[],rfl,⟨rfl,aX _,?_,λ_=>⟨hi,n,b,o0,len,cap,hn,hh,hl,?_,?_⟩⟩,ji⟩;exact gr.header h1;have:=hv.1;rwa[dC]at this;have:=hv.2;rwa[dC]at this|int _ _=>exact⟨[],[],rfl,h1,ji⟩|bool _=>exact⟨[],[],rfl,h1,ji⟩|str _=>exact⟨[],[],rfl,h1,ji⟩|jl=>exact⟨[],[],rfl,h1,ji⟩|ptr _ _=>exact⟨[],[],rfl,h1,ji⟩|Cg _ _ _ _ _=>exact⟨[],[],rfl,h1,ji⟩|fn _=>exact⟨[],[],rfl,h1,ji⟩|un=>exact⟨[],[],rfl,h1,ji⟩|bot=>exact⟨[],[],rfl,h1,ji⟩
theorem ahv {w:World}{v:Value}{xs:au e.D}(h:dW hw w (.sl e) [v] xs Zr){n:Nat}{x:e.D}(hx:xs[n]?=some x): ∃b o0 cap arr T fr fx,v=.slice (some ⟨b,o0,none⟩) xs.length cap/\w.heap[b]?=some (.cells arr T fr)/\dW hw w e ((arr.toList.drop (o0+n*e.size)).take e.size) x fx:=by obtain⟨u,hu,h⟩:=h;simp at hu;subst hu;have I3:n<xs.length:=(aD.1 hx).1;rcases h with⟨⟨_,rfl⟩,rfl,rfl⟩|⟨b,o0,cap,arr,T,fr,fps,rfl,hb,qG,hs,hc,hh,rfl,hl,hr⟩;simp at hx;have M0:fps[n]?=some fps[n]:=al (by omega);exact⟨b,o0,cap,arr,T,fr,_,rfl,hb,hr n x _ hx M0⟩
theorem YP {E:Env}(hE:jf P E.ty){o:Oper}(ho:o.op=.load T p)(hg:dk C g st a w []){K:AS->aw R}{x:e.D}{i:Int}(hT:iH E.ty T=some sh)(vo:gr (cq C g st w) (a.eval p) (.Cg fl e x i off) [])(hk:E0 o sh fl e i off st K=some r):mJ P C o a w K r:=by
 unfold E0 at hk;split at hk;rename_i ep rt t;obtain⟨_,b,ob,hv,_,_,HT⟩:=vo;obtain⟨_,n,o0,len,cap,tU,hrt,I3,hob⟩:=HT rt t rfl;split at hk;rename_i t' e' ys gE;split at hk;rename_i he;subst he;split at hk;rename_i hc;obtain⟨rfl,gk⟩:=hc;simp only at hk;cases D7:idx ys i with
 |none=>rw[D7]at hk;simp[aa]at hk
 |some y=>
  rw[D7]at hk;simp only[aa]at hk;have hyn:ys[n]?=some y:=by rw[tU]at D7;exact D7
  obtain⟨v0,f2,hh,eE,_,_,_⟩:=hg.To rt gE;obtain⟨b2,o2,Ug,arr,T',fr,fx,LU,jh,HR⟩:=ahv eE hyn;have h1:=hh t' rfl;have h2:g.hdr t'=.slice (some ⟨b,o0,none⟩) len cap:=hrt;rw[h2,LU]at h1;simp only[Value.slice.injEq,aZ,Addr.mk.injEq]at h1;obtain⟨⟨rfl,rfl,_⟩,_⟩:=h1;have hln:((arr.toList.drop (o2+n*e'.size)).take e'.size).length=e'.size:=dW.length HR;have Js:iU w (cq C g st w).S e' ((arr.toList.drop (o2+n*e'.size)).take e'.size) y:=dW.rep (λb o ho=> .inr ho) HR;have dx:bp (cq C g st w) ((arr.toList.drop (o2+n*e'.size)).take e'.size) (cellsOf e' (.loc st.ep none) y) []:=Hm (c:=cq C g st w) Js;have zW:∀j u,((((arr.toList.drop (o2+n*e'.size)).take e'.size).drop off).take sh.ct.size)[j]?=some u->w.cell? ⟨b2,ob+off+j,none⟩=some u:=by intro j u hu;rw[cP]at hu;split at hu;rw[bH,cP]at hu;split at hu;rw[bH,bZ]at hu;rw[mH jh,hob,fb];exact hu;cases hu;cases hu
  obtain⟨v,dA,dM⟩:=yZ (hE T sh hT) b2 (ob+off) ((((arr.toList.drop (o2+n*e'.size)).take e'.size).drop off).take sh.ct.size) (by simp only[bn,bh]at hln⊢;omega) zW;have HU:(execOp a.eval o).run P w=.ok (.value v) w:=by simp only[execOp,ho,hv,Instr.loadAt,Instr.sureAddr,Sem.run_bind,Sem.run_pure,Result.andThen_ok];show((loadVar T ⟨b2,ob+off,none⟩).run P w).andThen _=_;rw[dA];rfl
  obtain⟨f1,f2',f3,hf,_,r2,_⟩:=dx.mid off sh.ct.size;have Hh:f2'=[]:=by cases f2' with|nil=>rfl|cons y ys=>simp at hf
  subst Hh;refine⟨_,_,_,.inl HU,⟨g,hg.quiet o.dst ?_⟩,hk⟩;exact⟨_,dM,r2⟩
 cases hk;cases hk;cases hk;cases hk
theorem Ch {fps:au dI}{n:Nat}{f:dI}(h:fps[n]?=some f): fps.flatten=(fps.take n).flatten++f++(fps.drop (n+1)).flatten/\∀f',(fps.set n f').flatten=(fps.take n).flatten++f'++(fps.drop (n+1)).flatten:=by
 have hn:n<fps.length:=(aD.1 h).1;have hf:fps[n]=f:=by rw[al hn]at h;simpa using h
 constructor
 ·conv=>lhs;rw[<-cf n fps,bQ hn,hf]
  simp
 intro f';rw[List.set_eq_take_append_cons_drop,aF hn];simp
theorem aef {w:World}{v:Value}{xs:au e.D}(h:dW hw w (.sl e) [v] xs Zr){n:Nat}{x:e.D}(hx:xs[n]?=some x): ∃b o0 cap arr T fr f1 fx f3,v=.slice (some ⟨b,o0,none⟩) xs.length cap/\w.heap[b]?=some (.cells arr T fr)/\dW hw w e ((arr.toList.drop (o0+n*e.size)).take e.size) x fx/\ Zr=b::(f1++fx++f3)/\acD hw w e v xs n (b::(f1++f3)):=by obtain⟨u,hu,h⟩:=h;simp at hu;subst hu;have I3:n<xs.length:=(aD.1 hx).1;rcases h with⟨⟨_,rfl⟩,rfl,rfl⟩|⟨b,o0,cap,arr,T,fr,fps,rfl,hb,qG,hs,hc,hh,rfl,hl,hr⟩;simp at hx;have M0:fps[n]?=some fps[n]:=al (by omega);have HI:=Ch M0;refine⟨b,o0,cap,arr,T,fr,(fps.take n).flatten,fps[n],(fps.drop (n+1)).flatten,rfl,hb,hr n x _ hx M0,by rw[HI.1],?_⟩;refine⟨b,o0,cap,arr,T,fr,fps.set n [],rfl,hb,qG,hs,hc,hh,by rw[HI.2];simp,by simp[hl],I3,by rw[bk];simp[hl,I3],λi x' f hi zY hf=>?_⟩;rw[aN (cD hi)]at hf;exact hr i x' f zY hf
theorem TI {E:Env}(hE:jf P E.ty){o:Oper}(ho:o.op=.load T p)(hg:dk C g st a w []){K:AS->aw R}{x:e.D}{i:Int}(hT:iH E.ty T=some sh)(vo:gr (cq C g st w) (a.eval p) (.Cg fl e x i off) [])(hk:zu o sh fl e i off st K=some r):mJ P C o a w K r:=by
 unfold zu at hk;split at hk;rename_i ep rt t;obtain⟨_,b,ob,hv,_,_,HT⟩:=vo;obtain⟨_,n,o0,len,cap,tU,hrt,I3,hob⟩:=HT rt t rfl;split at hk;rename_i t' e' ys gE;split at hk;rename_i he;subst he;split at hk;rename_i hc;obtain⟨rfl,rfl,LO⟩:=hc;simp only at hk;cases D7:idx ys i with
 |none=>rw[D7]at hk;simp[aa]at hk
 |some y=>
  rw[D7]at hk;simp only[aa]at hk;have hyn:ys[n]?=some y:=by rw[tU]at D7;exact D7
  obtain⟨v0,f2,Gk,B8,_,la⟩:=hg.aet rt (by simp) gE;obtain⟨b2,o2,Ug,arr,T',fr,f1,fx,f3,LU,jh,HR,B7,ah5⟩:=aef Gk.1 hyn;have h1:=(Gk.2 t' rfl).2;have h2:g.hdr t'=.slice (some ⟨b,o0,none⟩) len cap:=hrt;have N3:v0=g.hdr t':=h1;rw[h2,LU]at N3;simp only[Value.slice.injEq,aZ,Addr.mk.injEq]at N3;obtain⟨⟨rfl,rfl,_⟩,_⟩:=N3;have jh:w.heap[b2]?=some (.cells arr T' fr):=jh;have hln:((arr.toList.drop (o2+n*e'.size)).take e'.size).length=e'.size:=dW.length HR;have zW:∀j u,((arr.toList.drop (o2+n*e'.size)).take e'.size)[j]?=some u->w.cell? ⟨b2,ob+0+j,none⟩=some u:=by intro j u hu;rw[cP]at hu;split at hu;rw[bH,bZ]at hu;rw[mH jh,hob,dC];exact hu;cases hu
  obtain⟨v,dA,dM⟩:=yZ (hE T sh hT) b2 (ob+0) ((arr.toList.drop (o2+n*e'.size)).take e'.size) (by rw[hln,LO]) zW;have HU:(execOp a.eval o).run P w=.ok (.value v) w:=by simp only[execOp,ho,hv,Instr.loadAt,Instr.sureAddr,Sem.run_bind,Sem.run_pure,Result.andThen_ok];show((loadVar T ⟨b2,ob+0,none⟩).run P w).andThen _=_;rw[dA];rfl
  rw[B7]at B8;have sO:=cJ.1 B8;have hn3:=sO.2;rw[aP]at hn3;have m1:=aB.1 hn3;have m2:=aB.1 m1.2.1;obtain⟨g',mI⟩:=la (.sl (.eQ (some t') i (some st.ep)) e' ys) (b2::(f1++f3)) fx v (.val sh.agg (cellsOf e' (.own none) y)) (λc' hle MD Bi xl=>by refine⟨λq hq=>?_,⟨n,tU,by rw[MD,Bi];exact ah5⟩,λt ht=>?_⟩;simp at hq;subst hq;refine⟨by rw[xl];exact aX _,λ_=>?_⟩;refine dW.rep (hw:=c'.hw) (fp:=f2) (λb o ho=> .inr ho) ?_;rw[MD,Bi];exact Gk.1;simp at ht;subst ht;have h0:=Gk.2 t' rfl;exact⟨(hle.hdr t' h0.1).1,by rw[(hle.hdr t' h0.1).2];exact h0.2⟩) (by refine cJ.2 ⟨λhm=>sO.1 (by rcases ay.1 hm with k|k<;>simp[k]),aB.2 ⟨m1.1,m2.2.1,?_⟩⟩;rintro c hc d hd rfl;exact m1.2.2 c hc c (ba _ hd) rfl) m2.1 (λc hc=>by rw[B7];rcases cg.1 hc with rfl|hc;exact⟨by simp,λhm=>sO.1 (by simp[hm])⟩;rcases ay.1 hc with hc|hc;exact⟨by simp[hc],λhm=>m1.2.2 c hc c (bj _ hm) rfl⟩;exact⟨by simp[hc],λhm=>m2.2.2 c hm c hc rfl⟩) (λc hc=>by rw[B7];simp[hc]) ⟨_,dM,sa (c:=cq C g st w) HR⟩;exact⟨_,_,_,.inl HU,dk.EI mI o.dst,hk⟩
 cases hk;cases hk;cases hk;cases hk
theorem abk {E:Env}(hE:jf P E.ty){an:An}{o:Oper}(ho:o.op=.load T p)(h:nb C st a w){K:AS->aw R}(hk:oW E an o T p st K=some r):mJ P C o a w K r:=by
 unfold oW at hk;obtain⟨g,hg⟩:=id h;split at hk;rename_i sh s off hT hp;have vo:=hg.rd p;rw[hp]at vo;have vo:=CM vo;split at hk;rename_i cs jq;have jq:st.boxes[s]?=some (some cs):=by rw[dv]at jq;cases hq:st.boxes[s]? with|none=>rw[hq]at jq;simp at jq|some q=>rw[hq]at jq;simp at jq;rw[jq]
 split at hk;rename_i gk;obtain⟨arr,T',fr,fp,jh,qG,hr,hn,sO,hl,Gg,HV⟩:=hg.boxes s cs jq;have hlen:=hr.length;have SH:=QC jh off sh.ct.size;obtain⟨v,dA,dM⟩:=yZ (hE T sh hT) (g.β s) off ((arr.toList.drop off).take sh.ct.size) (by simp at hlen⊢;omega) SH;have HU:(execOp a.eval o).run P w=.ok (.value v) w:=by simp only[execOp,ho,vo,Instr.loadAt,Instr.sureAddr,Sem.run_bind,Sem.run_pure,Result.andThen_ok];show((loadVar T ⟨g.β s,off,none⟩).run P w).andThen _=_;rw[dA];rfl
 split at hk;rename_i d hd;split at hk;obtain⟨g',mI⟩:=hg.af8 s jq off sh.ct.size gk (gg:=sh.agg) (v:=v) (λapn T2 fr2 h2=>by rw[jh]at h2;simp at h2;obtain⟨rfl,_⟩:=h2;exact dM);refine⟨_,_,_,.inl HU,?_,hk⟩;rw[hd];exact dk.EI mI (some d);refine⟨_,_,_,.inl HU,?_,hk⟩;rw[hd];refine⟨g,hg.quiet (some d) ⟨_,dM,?_⟩⟩;obtain⟨f1,f2,f3,_,_,r2,_⟩:=hr.mid off sh.ct.size;exact bp.borrow (c:=cq C g st w) (.box s) off r2;cases hk;cases hk;cases hk;rename_i sh fl e x i off hT hp;have vo:=hg.rd p;rw[hp]at vo;have vo:=dE vo;split at hk;exact TI hE ho hg hT vo hk;split at hk;rename_i oM;split at hk;rename_i gk
 have key:∃b o cs,a.eval p=.pointer (some ⟨b,o+off,none⟩)/\(∀j v,cs[j]?=some v->w.cell? ⟨b,o+j,none⟩=some v)/\bp (cq C g st w) cs (cellsOf e fl.bare x) []/\
  ∀ep rt t,fl=.loc ep (some (rt,t))->(cq C g st w).iss t/\(∃n o0 len cap:Nat,i=n/\(cq C g st w).hdr t=.slice (some ⟨b,o0,none⟩) len cap/\n<len/\o=o0+n*e.size)/\∀j v,cs[j]?=some v->(cq C g st w).S b (o+j):=by
  cases fl with
  |own t=>exact vo.elim
  |nest _ _ _ _ _ _=>exact vo.elim
  |part _ _ _ _=>exact vo.elim
  |eQ _ _ _=>exact vo.elim
  |arg _=>
   obtain⟨_,b,o,hv,cs,hc,hr⟩:=vo
   exact⟨b,o,cs,hv,λj v hj=>(hc j v hj).2,G1 hr,λ_ _ _ he=>by cases he⟩
  |loc ep pv=>
   obtain⟨_,b,o,hv,h2,h3,h4⟩:=vo
   have xl:ep=st.ep:=by simpa[qt.live]using oM
   obtain⟨cs,hc,hr⟩:=h3 xl
   exact⟨b,o,cs,hv,λj v hj=>(hc j v hj).2,by simp only[qt.bare];rw[xl];exact Hm hr,λep' rt t he=>by cases he;obtain⟨k1,k2⟩:=h4 rt t rfl;exact⟨k1,k2,λj v hj=>(hc j v hj).1⟩⟩
 obtain⟨b,ob,cs,hv,hc,dx,B9⟩:=key;have hlen:=dx.length;rw[kC]at hlen;obtain⟨v,dA,dM⟩:=yZ (hE T sh hT) b (ob+off) ((cs.drop off).take sh.ct.size) (by simp;omega) (λj u hu=>by rw[cP]at hu;split at hu;rw[bH]at hu;have:=hc _ _ hu;rwa[<-fb]at this;cases hu);have HU:(execOp a.eval o).run P w=.ok (.value v) w:=by simp only[execOp,ho,hv,Instr.loadAt,Instr.sureAddr,Sem.run_bind,Sem.run_pure,Result.andThen_ok];show((loadVar T ⟨b,ob+off,none⟩).run P w).andThen _=_;rw[dA];rfl
 obtain⟨f1,f2,f3,hf,_,r2,_⟩:=dx.mid off sh.ct.size;have Hh:f2=[]:=by cases f2 with|nil=>rfl|cons y ys=>simp at hf
 subst Hh;refine⟨_,_,_,.inl HU,⟨g,hg.quiet o.dst ?_⟩,hk⟩;refine⟨_,dM,?_⟩;unfold ad8;split;rename_i d _ _ _ _;cases an.nest.contains d with|false=>exact r2|true=>simp only[af];obtain⟨k1,⟨n,o0,len,cap,hi,hh,I3,MF⟩,hS⟩:=B9 _ _ _ rfl;refine OH (b:=b) (n:=n) (o0:=o0) (len:=len) (cap:=cap) k1 hi hh I3 _ off r2 (λj u hu=>?_);rw[cP]at hu;split at hu;rw[bH]at hu;rw[<-MF];exact⟨hS _ _ hu,hc _ _ hu⟩;cases hu
 exact r2;cases hk;exact YP hE ho hg hT vo hk;cases hk
theorem Ic (h:off+vs.length<=cs.length):(cS cs off vs).length=cs.length:=by simp[cS];omega
theorem Ie {E:Env}(hE:jf P E.ty){o:Oper}{x:Operand}(hd:o.dst=none)(ho:o.op=.store T p x){K:AS->aw R}{s:Nat}{st':AS}{g':Gh}(hT:iH E.ty T=some sh)(vo:a.eval p=.pointer (some ⟨g'.β s,off,none⟩))(mI:dk C g' st' a w [(a.eval x,.val gg vs)])(jq:(nth st'.boxes s).getD none=some cs)(hlen:vs.length=sh.ct.size)(adB:vs.all AC.J9=true)(gk:off+sh.ct.size<=cs.length)(hk:K (st'.ed s (some (cS cs off vs)))=some r):mJ P C o a w K r:=by
 have jq:st'.boxes[s]?=some (some cs):=by rw[dv]at jq;cases hq:st'.boxes[s]? with|none=>rw[hq]at jq;simp at jq|some q=>rw[hq]at jq;simp at jq;rw[jq]
 obtain⟨arr,T',fr,fp,jh,qG,hr,hn,sO,hl,Gg,HV⟩:=mI.boxes s cs jq;obtain⟨fh,⟨us,dM,WN⟩,LR,UK⟩:=mI.hands 0 _ _ rfl;have h1:=WN.mU adB;have hul:=WN.length;have hal:=hr.length;have agv:off+us.length<=arr.size:=by simp at hal;omega
 have UR:=E1 (P:=P) (w:=w) (hE T sh hT) (g'.β s) off dM (by omega) h1 jh qG agv;have dA:(execOp a.eval o).run P w=.ok .skip (uL w (g'.β s) (ec arr off us) T' fr):=by simp only[execOp,ho,vo,Instr.storeAt,Instr.sureAddr,Sem.run_bind,Sem.run_pure,Result.andThen_ok];show((storeVar T ⟨g'.β s,off,none⟩ (a.eval x)).run P w).andThen _=_;rw[UR];rfl
 have HP:=lQ jh;obtain⟨f1,f2,f3,rfl,r1,r2,r3⟩:=hr.mid off us.length;have Bm:=hn;rw[aP]at Bm;have n1:=aB.1 Bm;have n2:=aB.1 n1.2.1;have P1:∀b∈fh,b≠g'.β s/\b∉f1++f2++f3:=by intro b hb;have QY:=UK b hb;refine⟨λe=>?_,λhm=>?_⟩;rw[e,Gg]at QY;cases QY;rw[hl b hm]at QY;cases QY
 have ag4:Fr (λb=>cQ (g'.dB b)\/b=g'.β s) w (uL w (g'.β s) (ec arr off us) T' fr):=⟨rfl,rfl,rfl,by rw[ly];exact aX _,λb _ hb=>mF (λe=>hb (.inr e))⟩
 have ao9:∀t,(if t=s then g'.β s else g'.β t)=g'.β t:=by intro t;split<;>simp_all
 have hle:(cq C g' st' w).Le ⟨g'.hw,λt=>if t=s then g'.β s else g'.β t,C.A,g'.hdr,ll st',st'.ep,fX st',uL w (g'.β s) (ec arr off us) T' fr⟩:=by
  refine⟨rfl,λ_ ht=>⟨ht,rfl⟩,λk b o u hA hu=>?_,aX _,λt ht=>⟨ht,ao9 t⟩,λ_ b o u ho hu=>⟨ho,?_⟩⟩;have Ea:b≠g'.β s:=by rintro rfl;exact mI.K1 Gg k o hA
  rw[World.cell?_of_block (a:=⟨b,o,none⟩) (mF Ea)];exact hu;have Ea:b≠g'.β s:=by rintro rfl;have MF:o<g'.hw (g'.β s):=ho;rw[HV]at MF;omega
  rw[World.cell?_of_block (a:=⟨b,o,none⟩) (mF Ea)];exact hu
 have lH:∀b,b≠g'.β s->(uL w (g'.β s) (ec arr off us) T' fr).heap[b]?=w.heap[b]?:=λb hb=>mF hb;have dx:bp ⟨g'.hw,λt=>if t=s then g'.β s else g'.β t,C.A,g'.hdr,ll st',st'.ep,fX st',uL w (g'.β s) (ec arr off us) T' fr⟩ (ec arr off us).toList (cS cs off vs) (f1++fh++f3):=by
  rw[wA us arr off agv];have e2:cS cs off vs=cs.take off++vs++cs.drop (off+us.length):=by simp only[cS];rw[hul]
  rw[e2];refine((r1.mono hle (λb hb=>⟨lH b (λe=>sO (by rw[<-e];simp[hb])),rfl⟩)).append (WN.mono hle (λb hb=>⟨lH b (P1 b hb).1,rfl⟩))).append (r3.mono hle (λb hb=>⟨lH b (λe=>sO (by rw[<-e];simp[hb])),rfl⟩))
 have ahe:(f1++fh++f3).Nodup:=by rw[aP];refine aB.2 ⟨n1.1,aB.2 ⟨LR,n2.2.1,?_⟩,?_⟩;rintro b hb c hc rfl;exact(P1 b hb).2 (by simp[hc]);rintro b hb c hc rfl;rcases ay.1 hc with hc|hc;exact(P1 b hc).2 (by simp[hb]);exact n1.2.2 b hb b (ba _ hc) rfl
 obtain⟨g2,_,IA⟩:=mI.W4 s (bnew:=g'.β s) (hw':=g'.hw) (.inl ⟨rfl,Gg⟩) ag4 (xK HP) (λj hj=>qG j (by rwa[ik]at hj)) (by rw[ly];exact HP) HV
  (λ_ _ _ _ _=>rfl) (λb o u ho hu=>hle.abQ rfl b o u ho hu) dx ahe
  (by intro hm;simp only[ay]at hm
      rcases hm with(hm|hm)|hm
      ·exact sO (by simp[hm])
      ·exact(P1 _ hm).1 rfl
      ·exact sO (by simp[hm]))
  (by intro b hm;rw[ly];simp only[ay]at hm
      rcases hm with(hm|hm)|hm
      ·exact⟨(mI.fa b _ (hl b (by simp[hm]))).1,.inr (.inl (hl b (by simp[hm])))⟩
      ·exact⟨(mI.fa b _ (UK b hm)).1,.inl (by rw[UK b hm];rfl)⟩
      ·exact⟨(mI.fa b _ (hl b (by simp[hm]))).1,.inr (.inl (hl b (by simp[hm])))⟩)
 refine⟨undef,_,_,.inr ⟨rfl,dA⟩,?_,hk⟩;rw[hd];exact⟨g2,IA⟩
theorem Qr {E:Env}(hE:jf P E.ty){o:Oper}{x:Operand}(hd:o.dst=none)(ho:o.op=.store T p x)(h:nb C st a w){K:AS->aw R}{s:Nat}{st':AS}(hT:iH E.ty T=some sh)(hp:st.rd p=.val false [.ptr s off])(sX:st.take x=(.val gg vs,st'))(jq:(nth st'.boxes s).getD none=some cs)(hlen:vs.length=sh.ct.size)(adB:vs.all AC.J9=true)(gk:off+sh.ct.size<=cs.length)(hk:K (st'.ed s (some (cS cs off vs)))=some r):mJ P C o a w K r:=by obtain⟨g,hg⟩:=h;have vo:=hg.rd p;rw[hp]at vo;have vo:=CM vo;obtain⟨g',⟨ID,_⟩,mI⟩:=hg.aeV x;rw[sX]at mI;exact Ie hE hd ho hT (by rw[ID];exact vo) mI jq hlen adB gk hk
end Go.Dn
