import Derived.Test.YtbebkmajekhclaaGreatDnOps1
/- Part 2: loads and stores. -/
namespace Go.Dn
open Go.RowKit
variable {P:Program} {C:Ctx} {st:AS} {a:Act} {w:World} {R:Type} {r:R}
variable {gg:Bool} {e:CT} {fl:sj} {g:Gh} {i:Int} {n off:Nat} {hw:Nat->Nat} {p:Operand} {c:RC} {sh:Shape} {T:TypeId} {v:Value} {cs vs:ax AC} {fp fp0:fK}
theorem bU.mid {vs:jt}{xs:ax AC}(h:bU c vs xs fp)(off n:Nat): ∃f1 f2 f3,fp=f1++f2++f3/\bU c (vs.take off) (xs.take off) f1/\bU c ((vs.drop off).take n) ((xs.drop off).take n) f2/\bU c (vs.drop (off+n)) (xs.drop (off+n)) f3:=by obtain⟨f1,g1,rfl,r1,r2⟩:=h.split off;obtain⟨f2,f3,rfl,r3,r4⟩:=r2.split n;rw[eK,eK]at r4;exact⟨f1,f2,f3,by simp,r1,r3,r4⟩
theorem Sv {w:World}{b:Nat}{arr:Array Value}{fr:Nat×Nat}(hb:w.heap[b]?=some (.cells arr T fr))(off n:Nat): ∀j v,((arr.toList.drop off).take n)[j]?=some v->w.cell? ⟨b,off+j,none⟩=some v:=by intro j v hv;rw[ej]at hv;split at hv;rw[bQ,cG]at hv;rw[qv hb];exact hv;cases hv
theorem Dg {s:Nat}(h:gU c v (.val false [.ptr s off]) fp):v=.pointer (some ⟨c.β s,off,none⟩):=(fw h).1
theorem eJ.amF (h:eJ C g st a w [])(s:Nat)(hb:st.boxes[s]?=some (some cs))(off n:Nat)(iw:off+n<=cs.length)(gb:∀arr T fr,w.heap[g.β s]?=some (.cells arr T fr)->Cut gg v ((arr.toList.drop off).take n)): ∃g',eJ C g' (st.fD s (some (eZ cs off (bf st.ep ((cs.drop off).take n))))) a w [(v,.val gg ((cs.drop off).take n))]:=by
 obtain⟨arr,T,fr,fp,lz,uv,hr,hn,yn,hl,Jq,Jt⟩:=h.boxes s cs hb;obtain⟨f1,f2,f3,rfl,r1,r2,r3⟩:=hr.mid off n;have D7:=hn;rw[aL]at D7;have n1:=aQ.1 D7;have n2:=aQ.1 n1.2.1;have AW:s<st.boxes.length:=(aA.1 hb).1;let g':Gh:={g with ft:=λb=>if b∈f2 then some (.hand 0) else g.ft b}
 let bZ:AS:=st.fD s (some (eZ cs off (bf st.ep ((cs.drop off).take n))));have hle:(df C g st w).Le (df C g' bZ w):=Tm rfl (λ_ _ _ _ _ hv=>hv) (λ_ _=>rfl) (λ_ _ _ ho hu=>⟨ho,hu⟩);have hlk:∀b y,g.ft b=some y->b∉f2->g'.ft b=some y:=by intro b y hb hm;show(if b∈f2 then _ else _)=_;rw[aG hm];exact hb
 have NX:∀b y,y≠ .box s->g.ft b=some y->b∉f2:=λb y hy hb hm=>hy (by have:=hl b (by simp[hm]);rw[hb]at this;simpa using this);refine⟨g',h.step (λy=>y≠ .box s) hle h.defers h.size (by show(st.fD s _).boxes.length=st.slots.length;rw[lu,aC];exact h.bsize) h.frame ?_ (λb y hy hb=>⟨hlk b y hb (NX b y hy hb),rfl,rfl⟩) ?_ ?_ ?_ (.inl ⟨by simp,rfl⟩)⟩;intro b y hy;have Ww:(if b∈f2 then some (kZ.hand 0) else g.ft b)=some y:=hy;by_cases hm:b∈f2;exact h.gW b _ (hl b (by simp[hm]));rw[aG hm]at Ww;exact h.gW b y Ww;exact λi av hi=> .inl ⟨by simp,hi,rfl⟩;intro t sq ht;have ht':(st.boxes.set s (some (eZ cs off (bf st.ep ((cs.drop off).take n)))))[t]?=some (some sq):=by rw[<-lu];exact ht
 by_cases vr:t=s;subst vr;rw[bJ]at ht';simp only[ch,AW]at ht';simp at ht';subst ht';have LB:eZ cs off (bf st.ep ((cs.drop off).take n))=cs.take off++bf st.ep ((cs.drop off).take n)++cs.drop (off+n):=by simp only[eZ,bf,bH,aV,aJ];rw[iW (by omega)]
 refine .inr ⟨arr,T,fr,f1++f3,lz,uv,?_,?_,?_,?_,?_,Jt⟩;have e:arr.toList=arr.toList.take off++(arr.toList.drop off).take n++arr.toList.drop (off+n):=by rw[<-eK,aL,cI,cI]
 have hm1:=r1.mono hle (λb _=>⟨rfl,rfl⟩);have hm2:=(r2.bf).mono hle (by simp);have hm3:=r3.mono hle (λb _=>⟨rfl,rfl⟩);have hm4:=(hm1.append hm2).append hm3;rw[<-e,bD]at hm4;have e3:cs.take off++bf (df C g st w).ep ((cs.drop off).take n)++cs.drop (off+n)=eZ cs off (bf st.ep ((cs.drop off).take n)):=LB.symm;rw[e3]at hm4;exact hm4;refine aQ.2 ⟨n1.1,n2.2.1,?_⟩;rintro b hb c hc rfl;exact n1.2.2 b hb b (bw _ hc) rfl;intro hm;have hm':g.β t∈f1++f3:=hm;refine yn ?_;rcases ay.1 hm' with k|k;exact bK _ (bK _ k);exact bw _ k;intro b hb;refine hlk b _ (hl b (by simp at hb⊢;rcases hb with hb|hb<;>simp[hb])) ?_;intro hm;rcases ay.1 hb with hb|hb;exact n1.2.2 b hb b (bK _ hm) rfl;exact n2.2.2 b hm b hb rfl;refine hlk _ _ Jq (λhm=>yn ?_);have hm':g.β t∈f2:=hm;exact bK _ (bw _ hm');rw[aP (cZ vr)]at ht';exact .inl ⟨by simpa using vr,ht',rfl⟩;intro k u av hk;cases k with
 |zero=>simp only[cD,bq,Prod.mk.injEq]at hk;obtain⟨rfl,rfl⟩:=hk;refine .inr ⟨f2,⟨_,gb arr T fr lz,r2.mono hle (λb _=>⟨rfl,rfl⟩)⟩,n2.1,λb hb=>?_⟩;show(if b∈f2 then _ else _)=_;rw[aI hb]
 |succ k=>simp at hk
theorem iC.header {xs:ax e.D}(r:iC c v (.sl fl e xs) fp):∃o n k,v=.slice o n k/\n=xs.length:=by
 cases fl with
 |own t=>obtain⟨⟨u,hu,h⟩,_⟩:=r;simp at hu;subst hu;rcases h with⟨⟨_,rfl⟩,rfl,_⟩|⟨b,o0,cap,arr,T,fr,fps,rfl,_⟩;exact⟨_,_,_,rfl,rfl⟩;exact⟨_,_,_,rfl,rfl⟩
 |arg _=>obtain⟨_,u,hu,h⟩:=r;simp at hu;subst hu;rcases h with⟨⟨ad,rfl⟩,rfl⟩|⟨b,o,cap,rfl,_⟩;exact⟨_,_,_,rfl,rfl⟩;exact⟨_,_,_,rfl,rfl⟩
 |loc ep pv=>exact r.2.2.1
 |nest _ _ _ _ _ _=>exact r.2.2.1
 |part _ _ _ _=>exact r.2.2.1
 |ga _ _ _=>obtain⟨_,⟨k,_,b,o0,cap,arr,T,fr,fps,rfl,_⟩,_⟩:=r;exact⟨_,_,_,rfl,rfl⟩
theorem Qr {b o0 len cap t:Nat}{rt:lQ}{e:CT}(hi:c.iss t)(hn:i=n)(hh:c.hdr t=.slice (some ⟨b,o0,none⟩) len cap)(hl:n<len):∀(cs:ax AC)(p:Nat){vs:jt},bU c vs cs []->
 (∀j u,vs[j]?=some u->c.S b (o0+n*e.size+(p+j))/\c.w.cell? ⟨b,o0+n*e.size+(p+j),none⟩=some u)->bU c vs (VP c.ep rt t e i p cs) []
 |[],_,vs,h,_=>by cases vs<;>exact h
 |x::cs,p,vs,h,hc=>by
  cases vs with
  |nil=>exact h.elim
  |cons v vs=>
   obtain⟨f1,f2,hf,h1,h2⟩:=h;have e1:f1=[]:=by have:=hf.symm;simp at this;exact this.1
   have e2:f2=[]:=by have:=hf.symm;simp at this;exact this.2
   subst e1;subst e2;have wy:=Qr (rt:=rt) (e:=e) hi hn hh hl cs (p+1) h2 (λj u hu=>by have:=hc (j+1) u (by simpa using hu);rwa[show p+(j+1)=p+1+j by omega]at this);have hv:=hc 0 v rfl;cases x with|sl fl e' xs=>refine⟨[],[],rfl,⟨rfl,bj _,?_,λ_=>⟨hi,n,b,o0,len,cap,hn,hh,hl,?_,?_⟩⟩,wy⟩;exact iC.header h1;have:=hv.1;rwa[eP]at this;have:=hv.2;rwa[eP]at this|int _ _=>exact⟨[],[],rfl,h1,wy⟩|bool _=>exact⟨[],[],rfl,h1,wy⟩|str _=>exact⟨[],[],rfl,h1,wy⟩|kI=>exact⟨[],[],rfl,h1,wy⟩|ptr _ _=>exact⟨[],[],rfl,h1,wy⟩|Dy _ _ _ _ _=>exact⟨[],[],rfl,h1,wy⟩|fn _=>exact⟨[],[],rfl,h1,wy⟩|un=>exact⟨[],[],rfl,h1,wy⟩|bot=>exact⟨[],[],rfl,h1,wy⟩
theorem apr {w:World}{xs:ax e.D}(h:fZ hw w (.sl e) [v] xs fp0){x:e.D}(hx:xs[n]?=some x): ∃b o0 cap arr T fr fx,v=.slice (some ⟨b,o0,none⟩) xs.length cap/\w.heap[b]?=some (.cells arr T fr)/\fZ hw w e ((arr.toList.drop (o0+n*e.size)).take e.size) x fx:=by obtain⟨u,hu,h⟩:=h;simp at hu;subst hu;have MW:n<xs.length:=(aA.1 hx).1;rcases h with⟨⟨_,rfl⟩,rfl,rfl⟩|⟨b,o0,cap,arr,T,fr,fps,rfl,hb,uv,hs,hc,hh,rfl,hl,hr⟩;simp at hx;have Rv:fps[n]?=some fps[n]:=al (by omega);exact⟨b,o0,cap,arr,T,fr,_,rfl,hb,hr n x _ hx Rv⟩
theorem ac2 {E:Env}(hE:kq P E.ty){o:Oper}(ho:o.op=.load T p)(hg:eJ C g st a w []){K:AS->az R}{x:e.D}(hT:jU E.ty T=some sh)(wM:iC (df C g st w) (a.eval p) (.Dy fl e x i off) [])(hk:Fc o sh fl e i off st K=some r):oa P C o a w K r:=by
 unfold Fc at hk;split at hk;rename_i ep rt t;obtain⟨_,b,ob,hv,_,_,H6⟩:=wM;obtain⟨_,n,o0,len,cap,uB,hrt,MW,hob⟩:=H6 rt t rfl;split at hk;rename_i t' e' ys iR;split at hk;rename_i he;subst he;split at hk;rename_i hc;obtain⟨rfl,iw⟩:=hc;simp only at hk;cases Gl:idx ys i with
 |none=>rw[Gl]at hk;simp[aa]at hk
 |some y=>
  rw[Gl]at hk;simp only[aa]at hk;have hyn:ys[n]?=some y:=by rw[uB]at Gl;exact Gl
  obtain⟨v0,f2,hh,iz,_,_,_⟩:=hg.V2 rt iR;obtain⟨b2,o2,aav,arr,T',fr,fx,PX,lz,PT⟩:=apr iz hyn;have h1:=hh t' rfl;have h2:g.hdr t'=.slice (some ⟨b,o0,none⟩) len cap:=hrt;rw[h2,PX]at h1;simp only[Value.slice.injEq,bq,Addr.mk.injEq]at h1;obtain⟨⟨rfl,rfl,_⟩,_⟩:=h1;have hln:((arr.toList.drop (o2+n*e'.size)).take e'.size).length=e'.size:=fZ.length PT;have JZ:jX w (df C g st w).S e' ((arr.toList.drop (o2+n*e'.size)).take e'.size) y:=fZ.rep (λb o ho=> .inr ho) PT;have fM:bU (df C g st w) ((arr.toList.drop (o2+n*e'.size)).take e'.size) (cellsOf e' (.loc st.ep none) y) []:=HB (c:=df C g st w) JZ;have D3:∀j u,((((arr.toList.drop (o2+n*e'.size)).take e'.size).drop off).take sh.ct.size)[j]?=some u->w.cell? ⟨b2,ob+off+j,none⟩=some u:=by intro j u hu;rw[ej]at hu;split at hu;rw[bQ,ej]at hu;split at hu;rw[bQ,cG]at hu;rw[qv lz,hob,gy];exact hu;cases hu;cases hu
  obtain⟨v,fg,gb⟩:=Ag (hE T sh hT) b2 (ob+off) ((((arr.toList.drop (o2+n*e'.size)).take e'.size).drop off).take sh.ct.size) (by simp only[aV,aJ]at hln⊢;omega) D3;have H7:(execOp a.eval o).run P w=.ok (.value v) w:=by simp only[execOp,ho,hv,Instr.loadAt,Instr.sureAddr,Sem.run_bind,Sem.run_pure,Result.andThen_ok];show((loadVar T ⟨b2,ob+off,none⟩).run P w).andThen _=_;rw[fg];rfl
  obtain⟨f1,f2',f3,hf,_,r2,_⟩:=fM.mid off sh.ct.size;have CN:f2'=[]:=by cases f2' with|nil=>rfl|cons y ys=>simp at hf
  subst CN;refine⟨_,_,_,.inl H7,⟨g,hg.quiet o.dst ?_⟩,hk⟩;exact⟨_,gb,r2⟩
 cases hk;cases hk;cases hk;cases hk
theorem Gd {fps:ax fK}{f:fK}(h:fps[n]?=some f): fps.flatten=(fps.take n).flatten++f++(fps.drop (n+1)).flatten/\∀f',(fps.set n f').flatten=(fps.take n).flatten++f'++(fps.drop (n+1)).flatten:=by
 have hn:n<fps.length:=(aA.1 h).1;have hf:fps[n]=f:=by rw[al hn]at h;simpa using h
 constructor
 ·conv=>lhs;rw[<-cI n fps,cc hn,hf]
  simp
 intro f';rw[List.set_eq_take_append_cons_drop,aI hn];simp
theorem aj3 {w:World}{xs:ax e.D}(h:fZ hw w (.sl e) [v] xs fp0){x:e.D}(hx:xs[n]?=some x): ∃b o0 cap arr T fr f1 fx f3,v=.slice (some ⟨b,o0,none⟩) xs.length cap/\w.heap[b]?=some (.cells arr T fr)/\fZ hw w e ((arr.toList.drop (o0+n*e.size)).take e.size) x fx/\ fp0=b::(f1++fx++f3)/\ahF hw w e v xs n (b::(f1++f3)):=by obtain⟨u,hu,h⟩:=h;simp at hu;subst hu;have MW:n<xs.length:=(aA.1 hx).1;rcases h with⟨⟨_,rfl⟩,rfl,rfl⟩|⟨b,o0,cap,arr,T,fr,fps,rfl,hb,uv,hs,hc,hh,rfl,hl,hr⟩;simp at hx;have Rv:fps[n]?=some fps[n]:=al (by omega);have Jp:=Gd Rv;refine⟨b,o0,cap,arr,T,fr,(fps.take n).flatten,fps[n],(fps.drop (n+1)).flatten,rfl,hb,hr n x _ hx Rv,by rw[Jp.1],?_⟩;refine⟨b,o0,cap,arr,T,fr,fps.set n [],rfl,hb,uv,hs,hc,hh,by rw[Jp.2];simp,by simp[hl],MW,by rw[bJ];simp[hl,MW],λi x' f hi DE hf=>?_⟩;rw[aP (cZ hi)]at hf;exact hr i x' f DE hf
theorem Wm {E:Env}(hE:kq P E.ty){o:Oper}(ho:o.op=.load T p)(hg:eJ C g st a w []){K:AS->az R}{x:e.D}(hT:jU E.ty T=some sh)(wM:iC (df C g st w) (a.eval p) (.Dy fl e x i off) [])(hk:Aq o sh fl e i off st K=some r):oa P C o a w K r:=by
 unfold Aq at hk;split at hk;rename_i ep rt t;obtain⟨_,b,ob,hv,_,_,H6⟩:=wM;obtain⟨_,n,o0,len,cap,uB,hrt,MW,hob⟩:=H6 rt t rfl;split at hk;rename_i t' e' ys iR;split at hk;rename_i he;subst he;split at hk;rename_i hc;obtain⟨rfl,rfl,MU⟩:=hc;simp only at hk;cases Gl:idx ys i with
 |none=>rw[Gl]at hk;simp[aa]at hk
 |some y=>
  rw[Gl]at hk;simp only[aa]at hk;have hyn:ys[n]?=some y:=by rw[uB]at Gl;exact Gl
  obtain⟨v0,f2,S2,BL,_,si⟩:=hg.akj rt (by simp) iR;obtain⟨b2,o2,aav,arr,T',fr,f1,fx,f3,PX,lz,PT,FC,aqt⟩:=aj3 S2.1 hyn;have h1:=(S2.2 t' rfl).2;have h2:g.hdr t'=.slice (some ⟨b,o0,none⟩) len cap:=hrt;have Ru:v0=g.hdr t':=h1;rw[h2,PX]at Ru;simp only[Value.slice.injEq,bq,Addr.mk.injEq]at Ru;obtain⟨⟨rfl,rfl,_⟩,_⟩:=Ru;have lz:w.heap[b2]?=some (.cells arr T' fr):=lz;have hln:((arr.toList.drop (o2+n*e'.size)).take e'.size).length=e'.size:=fZ.length PT;have D3:∀j u,((arr.toList.drop (o2+n*e'.size)).take e'.size)[j]?=some u->w.cell? ⟨b2,ob+0+j,none⟩=some u:=by intro j u hu;rw[ej]at hu;split at hu;rw[bQ,cG]at hu;rw[qv lz,hob,eP];exact hu;cases hu
  obtain⟨v,fg,gb⟩:=Ag (hE T sh hT) b2 (ob+0) ((arr.toList.drop (o2+n*e'.size)).take e'.size) (by rw[hln,MU]) D3;have H7:(execOp a.eval o).run P w=.ok (.value v) w:=by simp only[execOp,ho,hv,Instr.loadAt,Instr.sureAddr,Sem.run_bind,Sem.run_pure,Result.andThen_ok];show((loadVar T ⟨b2,ob+0,none⟩).run P w).andThen _=_;rw[fg];rfl
  rw[FC]at BL;have yn:=dG.1 BL;have hn3:=yn.2;rw[aL]at hn3;have m1:=aQ.1 hn3;have m2:=aQ.1 m1.2.1;obtain⟨g',pJ⟩:=si (.sl (.ga (some t') i (some st.ep)) e' ys) (b2::(f1++f3)) fx v (.val sh.agg (cellsOf e' (.own none) y)) (λc' hle Wu HS Aw=>by refine⟨λq hq=>?_,⟨n,uB,by rw[Wu,HS];exact aqt⟩,λt ht=>?_⟩;simp at hq;subst hq;refine⟨by rw[Aw];exact bj _,λ_=>?_⟩;refine fZ.rep (hw:=c'.hw) (fp:=f2) (λb o ho=> .inr ho) ?_;rw[Wu,HS];exact S2.1;simp at ht;subst ht;have h0:=S2.2 t' rfl;exact⟨(hle.hdr t' h0.1).1,by rw[(hle.hdr t' h0.1).2];exact h0.2⟩) (by refine dG.2 ⟨λhm=>yn.1 (by rcases ay.1 hm with k|k<;>simp[k]),aQ.2 ⟨m1.1,m2.2.1,?_⟩⟩;rintro c hc d hd rfl;exact m1.2.2 c hc c (bw _ hd) rfl) m2.1 (λc hc=>by rw[FC];rcases bS.1 hc with rfl|hc;exact⟨by simp,λhm=>yn.1 (by simp[hm])⟩;rcases ay.1 hc with hc|hc;exact⟨by simp[hc],λhm=>m1.2.2 c hc c (bK _ hm) rfl⟩;exact⟨by simp[hc],λhm=>m2.2.2 c hm c hc rfl⟩) (λc hc=>by rw[FC];simp[hc]) ⟨_,gb,BP (c:=df C g st w) PT⟩;exact⟨_,_,_,.inl H7,eJ.E5 pJ o.dst,hk⟩
 cases hk;cases hk;cases hk;cases hk
theorem agb {E:Env}(hE:kq P E.ty){an:An}{o:Oper}(ho:o.op=.load T p)(h:pL C st a w){K:AS->az R}(hk:qK E an o T p st K=some r):oa P C o a w K r:=by
 unfold qK at hk;obtain⟨g,hg⟩:=id h;split at hk;rename_i sh s off hT hp;have wM:=hg.rd p;rw[hp]at wM;have wM:=Dg wM;split at hk;rename_i cs kQ;have kQ:st.boxes[s]?=some (some cs):=by rw[eH]at kQ;cases hq:st.boxes[s]? with|none=>rw[hq]at kQ;simp at kQ|some q=>rw[hq]at kQ;simp at kQ;rw[kQ]
 split at hk;rename_i iw;obtain⟨arr,T',fr,fp,lz,uv,hr,hn,yn,hl,Jq,Jt⟩:=hg.boxes s cs kQ;have hlen:=hr.length;have aoq:=Sv lz off sh.ct.size;obtain⟨v,fg,gb⟩:=Ag (hE T sh hT) (g.β s) off ((arr.toList.drop off).take sh.ct.size) (by simp at hlen⊢;omega) aoq;have H7:(execOp a.eval o).run P w=.ok (.value v) w:=by simp only[execOp,ho,wM,Instr.loadAt,Instr.sureAddr,Sem.run_bind,Sem.run_pure,Result.andThen_ok];show((loadVar T ⟨g.β s,off,none⟩).run P w).andThen _=_;rw[fg];rfl
 split at hk;rename_i d hd;split at hk;obtain⟨g',pJ⟩:=hg.amF s kQ off sh.ct.size iw (gg:=sh.agg) (v:=v) (λawl T2 fr2 h2=>by rw[lz]at h2;simp at h2;obtain⟨rfl,_⟩:=h2;exact gb);refine⟨_,_,_,.inl H7,?_,hk⟩;rw[hd];exact eJ.E5 pJ (some d);refine⟨_,_,_,.inl H7,?_,hk⟩;rw[hd];refine⟨g,hg.quiet (some d) ⟨_,gb,?_⟩⟩;obtain⟨f1,f2,f3,_,_,r2,_⟩:=hr.mid off sh.ct.size;exact bU.borrow (c:=df C g st w) (.box s) off r2;cases hk;cases hk;cases hk;rename_i sh fl e x i off hT hp;have wM:=hg.rd p;rw[hp]at wM;have wM:=fw wM;split at hk;exact Wm hE ho hg hT wM hk;split at hk;rename_i qB;split at hk;rename_i iw
 have key:∃b o cs,a.eval p=.pointer (some ⟨b,o+off,none⟩)/\(∀j v,cs[j]?=some v->w.cell? ⟨b,o+j,none⟩=some v)/\bU (df C g st w) cs (cellsOf e fl.bare x) []/\
  ∀ep rt t,fl=.loc ep (some (rt,t))->(df C g st w).iss t/\(∃n o0 len cap:Nat,i=n/\(df C g st w).hdr t=.slice (some ⟨b,o0,none⟩) len cap/\n<len/\o=o0+n*e.size)/\∀j v,cs[j]?=some v->(df C g st w).S b (o+j):=by
  cases fl with
  |own t=>exact wM.elim
  |nest _ _ _ _ _ _=>exact wM.elim
  |part _ _ _ _=>exact wM.elim
  |ga _ _ _=>exact wM.elim
  |arg _=>
   obtain⟨_,b,o,hv,cs,hc,hr⟩:=wM
   exact⟨b,o,cs,hv,λj v hj=>(hc j v hj).2,Hc hr,λ_ _ _ he=>by cases he⟩
  |loc ep pv=>
   obtain⟨_,b,o,hv,h2,h3,h4⟩:=wM
   have Aw:ep=st.ep:=by simpa[sj.live]using qB
   obtain⟨cs,hc,hr⟩:=h3 Aw
   exact⟨b,o,cs,hv,λj v hj=>(hc j v hj).2,by simp only[sj.bare];rw[Aw];exact HB hr,λep' rt t he=>by cases he;obtain⟨k1,k2⟩:=h4 rt t rfl;exact⟨k1,k2,λj v hj=>(hc j v hj).1⟩⟩
 obtain⟨b,ob,cs,hv,hc,fM,Hu⟩:=key;have hlen:=fM.length;rw[me]at hlen;obtain⟨v,fg,gb⟩:=Ag (hE T sh hT) b (ob+off) ((cs.drop off).take sh.ct.size) (by simp;omega) (λj u hu=>by rw[ej]at hu;split at hu;rw[bQ]at hu;have:=hc _ _ hu;rwa[<-gy]at this;cases hu);have H7:(execOp a.eval o).run P w=.ok (.value v) w:=by simp only[execOp,ho,hv,Instr.loadAt,Instr.sureAddr,Sem.run_bind,Sem.run_pure,Result.andThen_ok];show((loadVar T ⟨b,ob+off,none⟩).run P w).andThen _=_;rw[fg];rfl
 obtain⟨f1,f2,f3,hf,_,r2,_⟩:=fM.mid off sh.ct.size;have CN:f2=[]:=by cases f2 with|nil=>rfl|cons y ys=>simp at hf
 subst CN;refine⟨_,_,_,.inl H7,⟨g,hg.quiet o.dst ?_⟩,hk⟩;refine⟨_,gb,?_⟩;unfold ajS;split;rename_i d _ _ _ _;cases an.nest.contains d with|false=>exact r2|true=>simp only[ah];obtain⟨k1,⟨n,o0,len,cap,hi,hh,MW,NY⟩,hS⟩:=Hu _ _ _ rfl;refine Qr (b:=b) (n:=n) (o0:=o0) (len:=len) (cap:=cap) k1 hi hh MW _ off r2 (λj u hu=>?_);rw[ej]at hu;split at hu;rw[bQ]at hu;rw[<-NY];exact⟨hS _ _ hu,hc _ _ hu⟩;cases hu
 exact r2;cases hk;exact ac2 hE ho hg hT wM hk;cases hk
theorem It (h:off+vs.length<=cs.length):(eZ cs off vs).length=cs.length:=by simp[eZ];omega
theorem Ix {E:Env}(hE:kq P E.ty){o:Oper}{x:Operand}(hd:o.dst=none)(ho:o.op=.store T p x){K:AS->az R}{s:Nat}{bZ:AS}{g':Gh}(hT:jU E.ty T=some sh)(wM:a.eval p=.pointer (some ⟨g'.β s,off,none⟩))(pJ:eJ C g' bZ a w [(a.eval x,.val gg vs)])(kQ:(nth bZ.boxes s).getD none=some cs)(hlen:vs.length=sh.ct.size)(aji:vs.all AC.KS=true)(iw:off+sh.ct.size<=cs.length)(hk:K (bZ.fD s (some (eZ cs off vs)))=some r):oa P C o a w K r:=by
 have kQ:bZ.boxes[s]?=some (some cs):=by rw[eH]at kQ;cases hq:bZ.boxes[s]? with|none=>rw[hq]at kQ;simp at kQ|some q=>rw[hq]at kQ;simp at kQ;rw[kQ]
 obtain⟨arr,T',fr,fp,lz,uv,hr,hn,yn,hl,Jq,Jt⟩:=pJ.boxes s cs kQ;obtain⟨fh,⟨us,gb,hrh⟩,Rz,XO⟩:=pJ.hands 0 _ _ rfl;have h1:=hrh.oy aji;have hul:=hrh.length;have hal:=hr.length;have anb:off+us.length<=arr.size:=by simp at hal;omega
 have XT:=Fg (P:=P) (w:=w) (hE T sh hT) (g'.β s) off gb (by omega) h1 lz uv anb;have fg:(execOp a.eval o).run P w=.ok .skip (wi w (g'.β s) (fA arr off us) T' fr):=by simp only[execOp,ho,wM,Instr.storeAt,Instr.sureAddr,Sem.run_bind,Sem.run_pure,Result.andThen_ok];show((storeVar T ⟨g'.β s,off,none⟩ (a.eval x)).run P w).andThen _=_;rw[XT];rfl
 have Hq:=nz lz;obtain⟨f1,f2,f3,rfl,r1,r2,r3⟩:=hr.mid off us.length;have D7:=hn;rw[aL]at D7;have n1:=aQ.1 D7;have n2:=aQ.1 n1.2.1;have RP:∀b∈fh,b≠g'.β s/\b∉f1++f2++f3:=by intro b hb;have RT:=XO b hb;refine⟨λe=>?_,λhm=>?_⟩;rw[e,Jq]at RT;cases RT;rw[hl b hm]at RT;cases RT
 have aoi:Fr (λb=>eE (g'.ft b)\/b=g'.β s) w (wi w (g'.β s) (fA arr off us) T' fr):=⟨rfl,rfl,rfl,by rw[mV];exact bj _,λb _ hb=>nT (λe=>hb (.inr e))⟩
 have avU:∀t,(if t=s then g'.β s else g'.β t)=g'.β t:=by intro t;split<;>simp_all
 have hle:(df C g' bZ w).Le ⟨g'.hw,λt=>if t=s then g'.β s else g'.β t,C.A,g'.hdr,oc bZ,bZ.ep,jW bZ,wi w (g'.β s) (fA arr off us) T' fr⟩:=by
  refine⟨rfl,λ_ ht=>⟨ht,rfl⟩,λk b o u hA hu=>?_,bj _,λt ht=>⟨ht,avU t⟩,λ_ b o u ho hu=>⟨ho,?_⟩⟩;have D9:b≠g'.β s:=by rintro rfl;exact pJ.Qd Jq k o hA
  rw[World.cell?_of_block (a:=⟨b,o,none⟩) (nT D9)];exact hu;have D9:b≠g'.β s:=by rintro rfl;have NY:o<g'.hw (g'.β s):=ho;rw[Jt]at NY;omega
  rw[World.cell?_of_block (a:=⟨b,o,none⟩) (nT D9)];exact hu
 have uG:∀b,b≠g'.β s->(wi w (g'.β s) (fA arr off us) T' fr).heap[b]?=w.heap[b]?:=λb hb=>nT hb;have fM:bU ⟨g'.hw,λt=>if t=s then g'.β s else g'.β t,C.A,g'.hdr,oc bZ,bZ.ep,jW bZ,wi w (g'.β s) (fA arr off us) T' fr⟩ (fA arr off us).toList (eZ cs off vs) (f1++fh++f3):=by
  rw[xH us arr off anb];have e2:eZ cs off vs=cs.take off++vs++cs.drop (off+us.length):=by simp only[eZ];rw[hul]
  rw[e2];refine((r1.mono hle (λb hb=>⟨uG b (λe=>yn (by rw[<-e];simp[hb])),rfl⟩)).append (hrh.mono hle (λb hb=>⟨uG b (RP b hb).1,rfl⟩))).append (r3.mono hle (λb hb=>⟨uG b (λe=>yn (by rw[<-e];simp[hb])),rfl⟩))
 have aou:(f1++fh++f3).Nodup:=by rw[aL];refine aQ.2 ⟨n1.1,aQ.2 ⟨Rz,n2.2.1,?_⟩,?_⟩;rintro b hb c hc rfl;exact(RP b hb).2 (by simp[hc]);rintro b hb c hc rfl;rcases ay.1 hc with hc|hc;exact(RP b hc).2 (by simp[hb]);exact n1.2.2 b hb b (bw _ hc) rfl
 obtain⟨g2,_,IU⟩:=pJ.aam s (bnew:=g'.β s) (hw':=g'.hw) (.inl ⟨rfl,Jq⟩) aoi (yQ Hq) (λj hj=>uv j (by rwa[jn]at hj)) (by rw[mV];exact Hq) Jt
  (λ_ _ _ _ _=>rfl) (λb o u ho hu=>hle.agO rfl b o u ho hu) fM aou
  (by intro hm;simp only[ay]at hm
      rcases hm with(hm|hm)|hm
      ·exact yn (by simp[hm])
      ·exact(RP _ hm).1 rfl
      ·exact yn (by simp[hm]))
  (by intro b hm;rw[mV];simp only[ay]at hm
      rcases hm with(hm|hm)|hm
      ·exact⟨(pJ.gW b _ (hl b (by simp[hm]))).1,.inr (.inl (hl b (by simp[hm])))⟩
      ·exact⟨(pJ.gW b _ (XO b hm)).1,.inl (by rw[XO b hm];rfl)⟩
      ·exact⟨(pJ.gW b _ (hl b (by simp[hm]))).1,.inr (.inl (hl b (by simp[hm])))⟩)
 refine⟨undef,_,_,.inr ⟨rfl,fg⟩,?_,hk⟩;rw[hd];exact⟨g2,IU⟩
theorem Sk {E:Env}(hE:kq P E.ty){o:Oper}{x:Operand}(hd:o.dst=none)(ho:o.op=.store T p x)(h:pL C st a w){K:AS->az R}{s:Nat}{bZ:AS}(hT:jU E.ty T=some sh)(hp:st.rd p=.val false [.ptr s off])(uH:st.take x=(.val gg vs,bZ))(kQ:(nth bZ.boxes s).getD none=some cs)(hlen:vs.length=sh.ct.size)(aji:vs.all AC.KS=true)(iw:off+sh.ct.size<=cs.length)(hk:K (bZ.fD s (some (eZ cs off vs)))=some r):oa P C o a w K r:=by obtain⟨g,hg⟩:=h;have wM:=hg.rd p;rw[hp]at wM;have wM:=Dg wM;obtain⟨g',⟨LC,_⟩,pJ⟩:=hg.ak9 x;rw[uH]at pJ;exact Ix hE hd ho hT (by rw[LC];exact wM) pJ kQ hlen aji iw hk
end Go.Dn
