import Derived.Test.YtfbhfnniblfpbaaGreatDnOps1
/- Part 2: loads and stores. -/
namespace Go.Dn
open Go.RowKit
variable {P:Program} {C:Ctx} {st:AS} {a:Act} {w:World} {R:Type} {r:R}
variable {gg:Bool} {e:CT} {fl:tu} {g:Gh} {off:Nat} {hw:Nat->Nat} {p:Operand} {c:RC} {sh:Shape} {T:TypeId} {cs vs:ax AC} {fp fp0:fi}
theorem bW.mid {vs:jI}{xs:ax AC}(h:bW c vs xs fp)(off n:Nat): ∃f1 f2 f3,fp=f1++f2++f3/\bW c (vs.take off) (xs.take off) f1/\bW c ((vs.drop off).take n) ((xs.drop off).take n) f2/\bW c (vs.drop (off+n)) (xs.drop (off+n)) f3:=by obtain⟨f1,g1,rfl,r1,r2⟩:=h.split off;obtain⟨f2,f3,rfl,r3,r4⟩:=r2.split n;rw[fa,fa]at r4;exact⟨f1,f2,f3,by simp,r1,r3,r4⟩
theorem TD {w:World}{b:Nat}{arr:Array Value}{fr:Nat×Nat}(hb:w.heap[b]?=some (.cells arr T fr))(off n:Nat): ∀j v,((arr.toList.drop off).take n)[j]?=some v->w.cell? ⟨b,off+j,none⟩=some v:=by intro j v hv;rw[eJ]at hv;split at hv;rw[cj,cK]at hv;rw[rb hb];exact hv;cases hv
theorem Ey {v:Value}{s:Nat}(h:gV c v (.val false [.ptr s off]) fp):v=.pointer (some ⟨c.β s,off,none⟩):=(fN h).1
theorem eZ.akB (h:eZ C g st a w [])(s:Nat)(hb:st.boxes[s]?=some (some cs))(off n:Nat)(iW:off+n<=cs.length){v:Value}(gb:∀arr T fr,w.heap[g.β s]?=some (.cells arr T fr)->Cut gg v ((arr.toList.drop off).take n)): ∃g',eZ C g' (st.fQ s (some (fC cs off (bh st.ep ((cs.drop off).take n))))) a w [(v,.val gg ((cs.drop off).take n))]:=by
 obtain⟨arr,T,fr,fp,ma,vx,hr,hn,zb,hl,KI,KK⟩:=h.boxes s cs hb;obtain⟨f1,f2,f3,rfl,r1,r2,r3⟩:=hr.mid off n;have D5:=hn;rw[aG]at D5;have n1:=aN.1 D5;have n2:=aN.1 n1.2.1;have Cg:s<st.boxes.length:=(aD.1 hb).1;let g':Gh:={g with fK:=λb=>if b∈f2 then some (.hand 0) else g.fK b}
 let cp:AS:=st.fQ s (some (fC cs off (bh st.ep ((cs.drop off).take n))));have hle:(dy C g st w).Le (dy C g' cp w):=Ut rfl (λ_ _ _ _ _ hv=>hv) (λ_ _=>rfl) (λ_ _ _ ho hu=>⟨ho,hu⟩);have hlk:∀b y,g.fK b=some y->b∉f2->g'.fK b=some y:=by intro b y hb hm;show(if b∈f2 then _ else _)=_;rw[aK hm];exact hb
 have OW:∀b y,y≠ .box s->g.fK b=some y->b∉f2:=λb y hy hb hm=>hy (by have:=hl b (by simp[hm]);rw[hb]at this;simpa using this);refine⟨g',h.step (λy=>y≠ .box s) hle h.defers h.size (by show(st.fQ s _).boxes.length=st.slots.length;rw[lX,aL];exact h.bsize) h.frame ?_ (λb y hy hb=>⟨hlk b y hb (OW b y hy hb),rfl,rfl⟩) ?_ ?_ ?_ (.inl ⟨by simp,rfl⟩)⟩;intro b y hy;have Ud:(if b∈f2 then some (kX.hand 0) else g.fK b)=some y:=hy;by_cases hm:b∈f2;exact h.ir b _ (hl b (by simp[hm]));rw[aK hm]at Ud;exact h.ir b y Ud;exact λi av hi=> .inl ⟨by simp,hi,rfl⟩;intro t tr ht;have ht':(st.boxes.set s (some (fC cs off (bh st.ep ((cs.drop off).take n)))))[t]?=some (some tr):=by rw[<-lX];exact ht
 by_cases wx:t=s;subst wx;rw[bO]at ht';simp only[cL,Cg]at ht';simp at ht';subst ht';have ME:fC cs off (bh st.ep ((cs.drop off).take n))=cs.take off++bh st.ep ((cs.drop off).take n)++cs.drop (off+n):=by simp only[fC,bh,bX,bt,bA];rw[ko (by omega)]
 refine .inr ⟨arr,T,fr,f1++f3,ma,vx,?_,?_,?_,?_,?_,KK⟩;have e:arr.toList=arr.toList.take off++(arr.toList.drop off).take n++arr.toList.drop (off+n):=by rw[<-fa,aG,cg,cg]
 have hm1:=r1.mono hle (λb _=>⟨rfl,rfl⟩);have hm2:=(r2.bh).mono hle (by simp);have hm3:=r3.mono hle (λb _=>⟨rfl,rfl⟩);have hm4:=(hm1.append hm2).append hm3;rw[<-e,bg]at hm4;have e3:cs.take off++bh (dy C g st w).ep ((cs.drop off).take n)++cs.drop (off+n)=fC cs off (bh st.ep ((cs.drop off).take n)):=ME.symm;rw[e3]at hm4;exact hm4;refine aN.2 ⟨n1.1,n2.2.1,?_⟩;rintro b hb c hc rfl;exact n1.2.2 b hb b (bj _ hc) rfl;intro hm;have hm':g.β t∈f1++f3:=hm;refine zb ?_;rcases aB.1 hm' with k|k;exact aU _ (aU _ k);exact bj _ k;intro b hb;refine hlk b _ (hl b (by simp at hb⊢;rcases hb with hb|hb<;>simp[hb])) ?_;intro hm;rcases aB.1 hb with hb|hb;exact n1.2.2 b hb b (aU _ hm) rfl;exact n2.2.2 b hm b hb rfl;refine hlk _ _ KI (λhm=>zb ?_);have hm':g.β t∈f2:=hm;exact aU _ (bj _ hm');rw[aM (cE wx)]at ht';exact .inl ⟨by simpa using wx,ht',rfl⟩;intro k u av hk;cases k with
 |zero=>simp only[df,br,Prod.mk.injEq]at hk;obtain⟨rfl,rfl⟩:=hk;refine .inr ⟨f2,⟨_,gb arr T fr ma,r2.mono hle (λb _=>⟨rfl,rfl⟩)⟩,n2.1,λb hb=>?_⟩;show(if b∈f2 then _ else _)=_;rw[aI hb]
 |succ k=>simp at hk
theorem je.header {v:Value}{xs:ax e.D}(r:je c v (.sl fl e xs) fp):∃o n k,v=.slice o n k/\n=xs.length:=by
 cases fl with
 |own t=>obtain⟨⟨u,hu,h⟩,_⟩:=r;simp at hu;subst hu;rcases h with⟨⟨_,rfl⟩,rfl,_⟩|⟨b,o0,cap,arr,T,fr,fps,rfl,_⟩;exact⟨_,_,_,rfl,rfl⟩;exact⟨_,_,_,rfl,rfl⟩
 |arg _=>obtain⟨_,u,hu,h⟩:=r;simp at hu;subst hu;rcases h with⟨⟨ad,rfl⟩,rfl⟩|⟨b,o,cap,rfl,_⟩;exact⟨_,_,_,rfl,rfl⟩;exact⟨_,_,_,rfl,rfl⟩
 |loc ep pv=>exact r.2.2.1
 |nest _ _ _ _ _ _=>exact r.2.2.1
 |part _ _ _ _=>exact r.2.2.1
 |gr _ _ _=>obtain⟨_,⟨k,_,b,o0,cap,arr,T,fr,fps,rfl,_⟩,_⟩:=r;exact⟨_,_,_,rfl,rfl⟩
theorem Rr {b n o0 len cap t:Nat}{rt:mw}{e:CT}{i:Int}(hi:c.iss t)(hn:i=n)(hh:c.hdr t=.slice (some ⟨b,o0,none⟩) len cap)(hl:n<len):∀(cs:ax AC)(p:Nat){vs:jI},bW c vs cs []->
 (∀j u,vs[j]?=some u->c.S b (o0+n*e.size+(p+j))/\c.w.cell? ⟨b,o0+n*e.size+(p+j),none⟩=some u)->bW c vs (Wo c.ep rt t e i p cs) []
 |[],_,vs,h,_=>by cases vs<;>exact h
 |x::cs,p,vs,h,hc=>by
  cases vs with
  |nil=>exact h.elim
  |cons v vs=>
   obtain⟨f1,f2,hf,h1,h2⟩:=h;have e1:f1=[]:=by have:=hf.symm;simp at this;exact this.1
   have e2:f2=[]:=by have:=hf.symm;simp at this;exact this.2
   subst e1;subst e2;have oI:=Rr (rt:=rt) (e:=e) hi hn hh hl cs (p+1) h2 (λj u hu=>by have:=hc (j+1) u (by simpa using hu);rwa[show p+(j+1)=p+1+j by omega]at this);have hv:=hc 0 v rfl;cases x with|sl fl e' xs=>refine⟨[],[],rfl,⟨rfl,bc _,?_,λ_=>⟨hi,n,b,o0,len,cap,hn,hh,hl,?_,?_⟩⟩,oI⟩;exact je.header h1;have:=hv.1;rwa[eT]at this;have:=hv.2;rwa[eT]at this|int _ _=>exact⟨[],[],rfl,h1,oI⟩|bool _=>exact⟨[],[],rfl,h1,oI⟩|str _=>exact⟨[],[],rfl,h1,oI⟩|kS=>exact⟨[],[],rfl,h1,oI⟩|ptr _ _=>exact⟨[],[],rfl,h1,oI⟩|Ef _ _ _ _ _=>exact⟨[],[],rfl,h1,oI⟩|fn _=>exact⟨[],[],rfl,h1,oI⟩|un=>exact⟨[],[],rfl,h1,oI⟩|bot=>exact⟨[],[],rfl,h1,oI⟩
theorem al1 {w:World}{v:Value}{xs:ax e.D}(h:fZ hw w (.sl e) [v] xs fp0){n:Nat}{x:e.D}(hx:xs[n]?=some x): ∃b o0 cap arr T fr fx,v=.slice (some ⟨b,o0,none⟩) xs.length cap/\w.heap[b]?=some (.cells arr T fr)/\fZ hw w e ((arr.toList.drop (o0+n*e.size)).take e.size) x fx:=by obtain⟨u,hu,h⟩:=h;simp at hu;subst hu;have Oa:n<xs.length:=(aD.1 hx).1;rcases h with⟨⟨_,rfl⟩,rfl,rfl⟩|⟨b,o0,cap,arr,T,fr,fps,rfl,hb,vx,hs,hc,hh,rfl,hl,hr⟩;simp at hx;have X3:fps[n]?=some fps[n]:=ay (by omega);exact⟨b,o0,cap,arr,T,fr,_,rfl,hb,hr n x _ hx X3⟩
theorem acn {E:Env}(hE:kQ P E.ty){o:Oper}(ho:o.op=.load T p)(hg:eZ C g st a w []){K:AS->aA R}{x:e.D}{i:Int}(hT:kl E.ty T=some sh)(xH:je (dy C g st w) (a.eval p) (.Ef fl e x i off) [])(hk:GO o sh fl e i off st K=some r):oK P C o a w K r:=by
 unfold GO at hk;split at hk;rename_i ep rt t;obtain⟨_,b,ob,hv,_,_,Jz⟩:=xH;obtain⟨_,n,o0,len,cap,zw,hrt,Oa,hob⟩:=Jz rt t rfl;split at hk;rename_i t' e' ys jk;split at hk;rename_i he;subst he;split at hk;rename_i hc;obtain⟨rfl,iW⟩:=hc;simp only at hk;cases HL:idx ys i with
 |none=>rw[HL]at hk;simp[aa]at hk
 |some y=>
  rw[HL]at hk;simp only[aa]at hk;have hyn:ys[n]?=some y:=by rw[zw]at HL;exact HL
  obtain⟨v0,f2,hh,ix,_,_,_⟩:=hg.Wy rt jk;obtain⟨b2,o2,aav,arr,T',fr,fx,Ob,ma,QV⟩:=al1 ix hyn;have h1:=hh t' rfl;have h2:g.hdr t'=.slice (some ⟨b,o0,none⟩) len cap:=hrt;rw[h2,Ob]at h1;simp only[Value.slice.injEq,br,Addr.mk.injEq]at h1;obtain⟨⟨rfl,rfl,_⟩,_⟩:=h1;have hln:((arr.toList.drop (o2+n*e'.size)).take e'.size).length=e'.size:=fZ.length QV;have K9:kE w (dy C g st w).S e' ((arr.toList.drop (o2+n*e'.size)).take e'.size) y:=fZ.rep (λb o ho=> .inr ho) QV;have fE:bW (dy C g st w) ((arr.toList.drop (o2+n*e'.size)).take e'.size) (cellsOf e' (.loc st.ep none) y) []:=IX (c:=dy C g st w) K9;have Fq:∀j u,((((arr.toList.drop (o2+n*e'.size)).take e'.size).drop off).take sh.ct.size)[j]?=some u->w.cell? ⟨b2,ob+off+j,none⟩=some u:=by intro j u hu;rw[eJ]at hu;split at hu;rw[cj,eJ]at hu;split at hu;rw[cj,cK]at hu;rw[rb ma,hob,gn];exact hu;cases hu;cases hu
  obtain⟨v,fz,gb⟩:=Bm (hE T sh hT) b2 (ob+off) ((((arr.toList.drop (o2+n*e'.size)).take e'.size).drop off).take sh.ct.size) (by simp only[bt,bA]at hln⊢;omega) Fq;have JA:(execOp a.eval o).run P w=.ok (.value v) w:=by simp only[execOp,ho,hv,Instr.loadAt,Instr.sureAddr,Sem.run_bind,Sem.run_pure,Result.andThen_ok];show((loadVar T ⟨b2,ob+off,none⟩).run P w).andThen _=_;rw[fz];rfl
  obtain⟨f1,f2',f3,hf,_,r2,_⟩:=fE.mid off sh.ct.size;have F1:f2'=[]:=by cases f2' with|nil=>rfl|cons y ys=>simp at hf
  subst F1;refine⟨_,_,_,.inl JA,⟨g,hg.quiet o.dst ?_⟩,hk⟩;exact⟨_,gb,r2⟩
 cases hk;cases hk;cases hk;cases hk
theorem HE {fps:ax fi}{n:Nat}{f:fi}(h:fps[n]?=some f): fps.flatten=(fps.take n).flatten++f++(fps.drop (n+1)).flatten/\∀f',(fps.set n f').flatten=(fps.take n).flatten++f'++(fps.drop (n+1)).flatten:=by
 have hn:n<fps.length:=(aD.1 h).1;have hf:fps[n]=f:=by rw[ay hn]at h;simpa using h
 constructor
 ·conv=>lhs;rw[<-cg n fps,cr hn,hf]
  simp
 intro f';rw[List.set_eq_take_append_cons_drop,aI hn];simp
theorem aiq {w:World}{v:Value}{xs:ax e.D}(h:fZ hw w (.sl e) [v] xs fp0){n:Nat}{x:e.D}(hx:xs[n]?=some x): ∃b o0 cap arr T fr f1 fx f3,v=.slice (some ⟨b,o0,none⟩) xs.length cap/\w.heap[b]?=some (.cells arr T fr)/\fZ hw w e ((arr.toList.drop (o0+n*e.size)).take e.size) x fx/\ fp0=b::(f1++fx++f3)/\agD hw w e v xs n (b::(f1++f3)):=by obtain⟨u,hu,h⟩:=h;simp at hu;subst hu;have Oa:n<xs.length:=(aD.1 hx).1;rcases h with⟨⟨_,rfl⟩,rfl,rfl⟩|⟨b,o0,cap,arr,T,fr,fps,rfl,hb,vx,hs,hc,hh,rfl,hl,hr⟩;simp at hx;have X3:fps[n]?=some fps[n]:=ay (by omega);have KH:=HE X3;refine⟨b,o0,cap,arr,T,fr,(fps.take n).flatten,fps[n],(fps.drop (n+1)).flatten,rfl,hb,hr n x _ hx X3,by rw[KH.1],?_⟩;refine⟨b,o0,cap,arr,T,fr,fps.set n [],rfl,hb,vx,hs,hc,hh,by rw[KH.2];simp,by simp[hl],Oa,by rw[bO];simp[hl,Oa],λi x' f hi Dv hf=>?_⟩;rw[aM (cE hi)]at hf;exact hr i x' f Dv hf
theorem WV {E:Env}(hE:kQ P E.ty){o:Oper}(ho:o.op=.load T p)(hg:eZ C g st a w []){K:AS->aA R}{x:e.D}{i:Int}(hT:kl E.ty T=some sh)(xH:je (dy C g st w) (a.eval p) (.Ef fl e x i off) [])(hk:Bz o sh fl e i off st K=some r):oK P C o a w K r:=by
 unfold Bz at hk;split at hk;rename_i ep rt t;obtain⟨_,b,ob,hv,_,_,Jz⟩:=xH;obtain⟨_,n,o0,len,cap,zw,hrt,Oa,hob⟩:=Jz rt t rfl;split at hk;rename_i t' e' ys jk;split at hk;rename_i he;subst he;split at hk;rename_i hc;obtain⟨rfl,rfl,N8⟩:=hc;simp only at hk;cases HL:idx ys i with
 |none=>rw[HL]at hk;simp[aa]at hk
 |some y=>
  rw[HL]at hk;simp only[aa]at hk;have hyn:ys[n]?=some y:=by rw[zw]at HL;exact HL
  obtain⟨v0,f2,Ua,Hn,_,tt⟩:=hg.aiG rt (by simp) jk;obtain⟨b2,o2,aav,arr,T',fr,f1,fx,f3,Ob,ma,QV,Ha,amJ⟩:=aiq Ua.1 hyn;have h1:=(Ua.2 t' rfl).2;have h2:g.hdr t'=.slice (some ⟨b,o0,none⟩) len cap:=hrt;have VS:v0=g.hdr t':=h1;rw[h2,Ob]at VS;simp only[Value.slice.injEq,br,Addr.mk.injEq]at VS;obtain⟨⟨rfl,rfl,_⟩,_⟩:=VS;have ma:w.heap[b2]?=some (.cells arr T' fr):=ma;have hln:((arr.toList.drop (o2+n*e'.size)).take e'.size).length=e'.size:=fZ.length QV;have Fq:∀j u,((arr.toList.drop (o2+n*e'.size)).take e'.size)[j]?=some u->w.cell? ⟨b2,ob+0+j,none⟩=some u:=by intro j u hu;rw[eJ]at hu;split at hu;rw[cj,cK]at hu;rw[rb ma,hob,eT];exact hu;cases hu
  obtain⟨v,fz,gb⟩:=Bm (hE T sh hT) b2 (ob+0) ((arr.toList.drop (o2+n*e'.size)).take e'.size) (by rw[hln,N8]) Fq;have JA:(execOp a.eval o).run P w=.ok (.value v) w:=by simp only[execOp,ho,hv,Instr.loadAt,Instr.sureAddr,Sem.run_bind,Sem.run_pure,Result.andThen_ok];show((loadVar T ⟨b2,ob+0,none⟩).run P w).andThen _=_;rw[fz];rfl
  rw[Ha]at Hn;have zb:=dH.1 Hn;have hn3:=zb.2;rw[aG]at hn3;have m1:=aN.1 hn3;have m2:=aN.1 m1.2.1;obtain⟨g',qn⟩:=tt (.sl (.gr (some t') i (some st.ep)) e' ys) (b2::(f1++f3)) fx v (.val sh.agg (cellsOf e' (.own none) y)) (λc' hle T8 Hh BG=>by refine⟨λq hq=>?_,⟨n,zw,by rw[T8,Hh];exact amJ⟩,λt ht=>?_⟩;simp at hq;subst hq;refine⟨by rw[BG];exact bc _,λ_=>?_⟩;refine fZ.rep (hw:=c'.hw) (fp:=f2) (λb o ho=> .inr ho) ?_;rw[T8,Hh];exact Ua.1;simp at ht;subst ht;have h0:=Ua.2 t' rfl;exact⟨(hle.hdr t' h0.1).1,by rw[(hle.hdr t' h0.1).2];exact h0.2⟩) (by refine dH.2 ⟨λhm=>zb.1 (by rcases aB.1 hm with k|k<;>simp[k]),aN.2 ⟨m1.1,m2.2.1,?_⟩⟩;rintro c hc d hd rfl;exact m1.2.2 c hc c (bj _ hd) rfl) m2.1 (λc hc=>by rw[Ha];rcases cy.1 hc with rfl|hc;exact⟨by simp,λhm=>zb.1 (by simp[hm])⟩;rcases aB.1 hc with hc|hc;exact⟨by simp[hc],λhm=>m1.2.2 c hc c (aU _ hm) rfl⟩;exact⟨by simp[hc],λhm=>m2.2.2 c hm c hc rfl⟩) (λc hc=>by rw[Ha];simp[hc]) ⟨_,gb,xy (c:=dy C g st w) QV⟩;exact⟨_,_,_,.inl JA,eZ.Gy qn o.dst,hk⟩
 cases hk;cases hk;cases hk;cases hk
theorem ae1 {E:Env}(hE:kQ P E.ty){an:An}{o:Oper}(ho:o.op=.load T p)(h:qo C st a w){K:AS->aA R}(hk:rp E an o T p st K=some r):oK P C o a w K r:=by
 unfold rp at hk;obtain⟨g,hg⟩:=id h;split at hk;rename_i sh s off hT hp;have xH:=hg.rd p;rw[hp]at xH;have xH:=Ey xH;split at hk;rename_i cs lB;have lB:st.boxes[s]?=some (some cs):=by rw[eV]at lB;cases hq:st.boxes[s]? with|none=>rw[hq]at lB;simp at lB|some q=>rw[hq]at lB;simp at lB;rw[lB]
 split at hk;rename_i iW;obtain⟨arr,T',fr,fp,ma,vx,hr,hn,zb,hl,KI,KK⟩:=hg.boxes s cs lB;have hlen:=hr.length;have alC:=TD ma off sh.ct.size;obtain⟨v,fz,gb⟩:=Bm (hE T sh hT) (g.β s) off ((arr.toList.drop off).take sh.ct.size) (by simp at hlen⊢;omega) alC;have JA:(execOp a.eval o).run P w=.ok (.value v) w:=by simp only[execOp,ho,xH,Instr.loadAt,Instr.sureAddr,Sem.run_bind,Sem.run_pure,Result.andThen_ok];show((loadVar T ⟨g.β s,off,none⟩).run P w).andThen _=_;rw[fz];rfl
 split at hk;rename_i d hd;split at hk;obtain⟨g',qn⟩:=hg.akB s lB off sh.ct.size iW (gg:=sh.agg) (v:=v) (λath T2 fr2 h2=>by rw[ma]at h2;simp at h2;obtain⟨rfl,_⟩:=h2;exact gb);refine⟨_,_,_,.inl JA,?_,hk⟩;rw[hd];exact eZ.Gy qn (some d);refine⟨_,_,_,.inl JA,?_,hk⟩;rw[hd];refine⟨g,hg.quiet (some d) ⟨_,gb,?_⟩⟩;obtain⟨f1,f2,f3,_,_,r2,_⟩:=hr.mid off sh.ct.size;exact bW.borrow (c:=dy C g st w) (.box s) off r2;cases hk;cases hk;cases hk;rename_i sh fl e x i off hT hp;have xH:=hg.rd p;rw[hp]at xH;have xH:=fN xH;split at hk;exact WV hE ho hg hT xH hk;split at hk;rename_i ri;split at hk;rename_i iW
 have key:∃b o cs,a.eval p=.pointer (some ⟨b,o+off,none⟩)/\(∀j v,cs[j]?=some v->w.cell? ⟨b,o+j,none⟩=some v)/\bW (dy C g st w) cs (cellsOf e fl.bare x) []/\
  ∀ep rt t,fl=.loc ep (some (rt,t))->(dy C g st w).iss t/\(∃n o0 len cap:Nat,i=n/\(dy C g st w).hdr t=.slice (some ⟨b,o0,none⟩) len cap/\n<len/\o=o0+n*e.size)/\∀j v,cs[j]?=some v->(dy C g st w).S b (o+j):=by
  cases fl with
  |own t=>exact xH.elim
  |nest _ _ _ _ _ _=>exact xH.elim
  |part _ _ _ _=>exact xH.elim
  |gr _ _ _=>exact xH.elim
  |arg _=>
   obtain⟨_,b,o,hv,cs,hc,hr⟩:=xH
   exact⟨b,o,cs,hv,λj v hj=>(hc j v hj).2,IA hr,λ_ _ _ he=>by cases he⟩
  |loc ep pv=>
   obtain⟨_,b,o,hv,h2,h3,h4⟩:=xH
   have BG:ep=st.ep:=by simpa[tu.live]using ri
   obtain⟨cs,hc,hr⟩:=h3 BG
   exact⟨b,o,cs,hv,λj v hj=>(hc j v hj).2,by simp only[tu.bare];rw[BG];exact IX hr,λep' rt t he=>by cases he;obtain⟨k1,k2⟩:=h4 rt t rfl;exact⟨k1,k2,λj v hj=>(hc j v hj).1⟩⟩
 obtain⟨b,ob,cs,hv,hc,fE,C1⟩:=key;have hlen:=fE.length;rw[mH]at hlen;obtain⟨v,fz,gb⟩:=Bm (hE T sh hT) b (ob+off) ((cs.drop off).take sh.ct.size) (by simp;omega) (λj u hu=>by rw[eJ]at hu;split at hu;rw[cj]at hu;have:=hc _ _ hu;rwa[<-gn]at this;cases hu);have JA:(execOp a.eval o).run P w=.ok (.value v) w:=by simp only[execOp,ho,hv,Instr.loadAt,Instr.sureAddr,Sem.run_bind,Sem.run_pure,Result.andThen_ok];show((loadVar T ⟨b,ob+off,none⟩).run P w).andThen _=_;rw[fz];rfl
 obtain⟨f1,f2,f3,hf,_,r2,_⟩:=fE.mid off sh.ct.size;have F1:f2=[]:=by cases f2 with|nil=>rfl|cons y ys=>simp at hf
 subst F1;refine⟨_,_,_,.inl JA,⟨g,hg.quiet o.dst ?_⟩,hk⟩;refine⟨_,gb,?_⟩;unfold aid;split;rename_i d _ _ _ _;cases an.nest.contains d with|false=>exact r2|true=>simp only[af];obtain⟨k1,⟨n,o0,len,cap,hi,hh,Oa,OX⟩,hS⟩:=C1 _ _ _ rfl;refine Rr (b:=b) (n:=n) (o0:=o0) (len:=len) (cap:=cap) k1 hi hh Oa _ off r2 (λj u hu=>?_);rw[eJ]at hu;split at hu;rw[cj]at hu;rw[<-OX];exact⟨hS _ _ hu,hc _ _ hu⟩;cases hu
 exact r2;cases hk;exact acn hE ho hg hT xH hk;cases hk
theorem JO (h:off+vs.length<=cs.length):(fC cs off vs).length=cs.length:=by simp[fC];omega
theorem JP {E:Env}(hE:kQ P E.ty){o:Oper}{x:Operand}(hd:o.dst=none)(ho:o.op=.store T p x){K:AS->aA R}{s:Nat}{cp:AS}{g':Gh}(hT:kl E.ty T=some sh)(xH:a.eval p=.pointer (some ⟨g'.β s,off,none⟩))(qn:eZ C g' cp a w [(a.eval x,.val gg vs)])(lB:(nth cp.boxes s).getD none=some cs)(hlen:vs.length=sh.ct.size)(ahC:vs.all AC.L5=true)(iW:off+sh.ct.size<=cs.length)(hk:K (cp.fQ s (some (fC cs off vs)))=some r):oK P C o a w K r:=by
 have lB:cp.boxes[s]?=some (some cs):=by rw[eV]at lB;cases hq:cp.boxes[s]? with|none=>rw[hq]at lB;simp at lB|some q=>rw[hq]at lB;simp at lB;rw[lB]
 obtain⟨arr,T',fr,fp,ma,vx,hr,hn,zb,hl,KI,KK⟩:=qn.boxes s cs lB;obtain⟨fh,⟨us,gb,hrh⟩,SC,X7⟩:=qn.hands 0 _ _ rfl;have h1:=hrh.oT ahC;have hul:=hrh.length;have hal:=hr.length;have akS:off+us.length<=arr.size:=by simp at hal;omega
 have Ye:=GP (P:=P) (w:=w) (hE T sh hT) (g'.β s) off gb (by omega) h1 ma vx akS;have fz:(execOp a.eval o).run P w=.ok .skip (xj w (g'.β s) (fP arr off us) T' fr):=by simp only[execOp,ho,xH,Instr.storeAt,Instr.sureAddr,Sem.run_bind,Sem.run_pure,Result.andThen_ok];show((storeVar T ⟨g'.β s,off,none⟩ (a.eval x)).run P w).andThen _=_;rw[Ye];rfl
 have Jw:=nR ma;obtain⟨f1,f2,f3,rfl,r1,r2,r3⟩:=hr.mid off us.length;have D5:=hn;rw[aG]at D5;have n1:=aN.1 D5;have n2:=aN.1 n1.2.1;have SQ:∀b∈fh,b≠g'.β s/\b∉f1++f2++f3:=by intro b hb;have T9:=X7 b hb;refine⟨λe=>?_,λhm=>?_⟩;rw[e,KI]at T9;cases T9;rw[hl b hm]at T9;cases T9
 have alv:Fr (λb=>eQ (g'.fK b)\/b=g'.β s) w (xj w (g'.β s) (fP arr off us) T' fr):=⟨rfl,rfl,rfl,by rw[nz];exact bc _,λb _ hb=>oG (λe=>hb (.inr e))⟩
 have as2:∀t,(if t=s then g'.β s else g'.β t)=g'.β t:=by intro t;split<;>simp_all
 have hle:(dy C g' cp w).Le ⟨g'.hw,λt=>if t=s then g'.β s else g'.β t,C.A,g'.hdr,oL cp,cp.ep,kD cp,xj w (g'.β s) (fP arr off us) T' fr⟩:=by
  refine⟨rfl,λ_ ht=>⟨ht,rfl⟩,λk b o u hA hu=>?_,bc _,λt ht=>⟨ht,as2 t⟩,λ_ b o u ho hu=>⟨ho,?_⟩⟩;have Fa:b≠g'.β s:=by rintro rfl;exact qn.Rf KI k o hA
  rw[World.cell?_of_block (a:=⟨b,o,none⟩) (oG Fa)];exact hu;have Fa:b≠g'.β s:=by rintro rfl;have OX:o<g'.hw (g'.β s):=ho;rw[KK]at OX;omega
  rw[World.cell?_of_block (a:=⟨b,o,none⟩) (oG Fa)];exact hu
 have vE:∀b,b≠g'.β s->(xj w (g'.β s) (fP arr off us) T' fr).heap[b]?=w.heap[b]?:=λb hb=>oG hb;have fE:bW ⟨g'.hw,λt=>if t=s then g'.β s else g'.β t,C.A,g'.hdr,oL cp,cp.ep,kD cp,xj w (g'.β s) (fP arr off us) T' fr⟩ (fP arr off us).toList (fC cs off vs) (f1++fh++f3):=by
  rw[yq us arr off akS];have e2:fC cs off vs=cs.take off++vs++cs.drop (off+us.length):=by simp only[fC];rw[hul]
  rw[e2];refine((r1.mono hle (λb hb=>⟨vE b (λe=>zb (by rw[<-e];simp[hb])),rfl⟩)).append (hrh.mono hle (λb hb=>⟨vE b (SQ b hb).1,rfl⟩))).append (r3.mono hle (λb hb=>⟨vE b (λe=>zb (by rw[<-e];simp[hb])),rfl⟩))
 have alF:(f1++fh++f3).Nodup:=by rw[aG];refine aN.2 ⟨n1.1,aN.2 ⟨SC,n2.2.1,?_⟩,?_⟩;rintro b hb c hc rfl;exact(SQ b hb).2 (by simp[hc]);rintro b hb c hc rfl;rcases aB.1 hc with hc|hc;exact(SQ b hc).2 (by simp[hb]);exact n1.2.2 b hb b (bj _ hc) rfl
 obtain⟨g2,_,Kf⟩:=qn.aap s (bnew:=g'.β s) (hw':=g'.hw) (.inl ⟨rfl,KI⟩) alv (Ac Jw) (λj hj=>vx j (by rwa[jR]at hj)) (by rw[nz];exact Jw) KK
  (λ_ _ _ _ _=>rfl) (λb o u ho hu=>hle.afH rfl b o u ho hu) fE alF
  (by intro hm;simp only[aB]at hm
      rcases hm with(hm|hm)|hm
      ·exact zb (by simp[hm])
      ·exact(SQ _ hm).1 rfl
      ·exact zb (by simp[hm]))
  (by intro b hm;rw[nz];simp only[aB]at hm
      rcases hm with(hm|hm)|hm
      ·exact⟨(qn.ir b _ (hl b (by simp[hm]))).1,.inr (.inl (hl b (by simp[hm])))⟩
      ·exact⟨(qn.ir b _ (X7 b hm)).1,.inl (by rw[X7 b hm];rfl)⟩
      ·exact⟨(qn.ir b _ (hl b (by simp[hm]))).1,.inr (.inl (hl b (by simp[hm])))⟩)
 refine⟨undef,_,_,.inr ⟨rfl,fz⟩,?_,hk⟩;rw[hd];exact⟨g2,Kf⟩
theorem Tk {E:Env}(hE:kQ P E.ty){o:Oper}{x:Operand}(hd:o.dst=none)(ho:o.op=.store T p x)(h:qo C st a w){K:AS->aA R}{s:Nat}{cp:AS}(hT:kl E.ty T=some sh)(hp:st.rd p=.val false [.ptr s off])(vF:st.take x=(.val gg vs,cp))(lB:(nth cp.boxes s).getD none=some cs)(hlen:vs.length=sh.ct.size)(ahC:vs.all AC.L5=true)(iW:off+sh.ct.size<=cs.length)(hk:K (cp.fQ s (some (fC cs off vs)))=some r):oK P C o a w K r:=by obtain⟨g,hg⟩:=h;have xH:=hg.rd p;rw[hp]at xH;have xH:=Ey xH;obtain⟨g',⟨M3,_⟩,qn⟩:=hg.ai9 x;rw[vF]at qn;exact JP hE hd ho hT (by rw[M3];exact xH) qn lB hlen ahC iW hk
end Go.Dn
