import Derived.Test.YtgbaemfepmabgaaGreatDnOps1
/- Part 2: loads and stores. -/
namespace Go.Dn
open Go.RowKit
variable {P:Program} {C:Ctx} {st:AS} {a:Act} {w:World} {R:Type} {r:R}
variable {gg:Bool} {e:CT} {fl:qv} {g:Gh} {n off:Nat} {hw:Nat->Nat} {p:Operand} {c:RC} {sh:Shape} {T:TypeId} {v:Value} {cs vs:aw AC} {fp fp0:fu}
theorem bR.mid {vs:iS}{xs:aw AC}(h:bR c vs xs fp)(off n:Nat): ∃f1 f2 f3,fp=f1++f2++f3/\bR c (vs.take off) (xs.take off) f1/\bR c ((vs.drop off).take n) ((xs.drop off).take n) f2/\bR c (vs.drop (off+n)) (xs.drop (off+n)) f3:=by obtain⟨f1,g1,rfl,r1,r2⟩:=h.split off;obtain⟨f2,f3,rfl,r3,r4⟩:=r2.split n;rw[fg,fg]at r4;exact⟨f1,f2,f3,by simp,r1,r3,r4⟩
theorem N7 {w:World}{b:Nat}{arr:Array Value}{fr:Nat×Nat}(hb:w.heap[b]?=some (.cells arr T fr))(off n:Nat): ∀j v,((arr.toList.drop off).take n)[j]?=some v->w.cell? ⟨b,off+j,none⟩=some v:=by intro j v hv;rw[dV]at hv;split at hv;rw[bU,cB]at hv;rw[oS hb];exact hv;cases hv
theorem AU {s:Nat}(h:gE c v (.val false [.ptr s off]) fp):v=.pointer (some ⟨c.β s,off,none⟩):=(eU h).1
theorem ez.ah5 (h:ez C g st a w [])(s:Nat)(hb:st.boxes[s]?=some (some cs))(off n:Nat)(hfit:off+n<=cs.length)(hcut:∀arr T fr,w.heap[g.β s]?=some (.cells arr T fr)->Cut gg v ((arr.toList.drop off).take n)): ∃g',ez C g' (st.eZ s (some (eQ cs off (bc st.ep ((cs.drop off).take n))))) a w [(v,.val gg ((cs.drop off).take n))]:=by
 obtain⟨arr,T,fr,fp,hblk,hth,hr,hn,hnb,hl,hl0,hw0⟩:=h.boxes s cs hb;obtain⟨f1,f2,f3,rfl,r1,r2,r3⟩:=hr.mid off n;have hn':=hn;rw[aZ]at hn';have n1:=aO.1 hn';have n2:=aO.1 n1.2.1;have hslt:s<st.boxes.length:=(aC.1 hb).1;let g':Gh:={g with lab:=λb=>if b∈f2 then some (.hand 0) else g.lab b}
 let st':AS:=st.eZ s (some (eQ cs off (bc st.ep ((cs.drop off).take n))));have hle:(dc C g st w).Le (dc C g' st' w):=OS rfl (λ_ _ _ _ _ hv=>hv) (λ_ _=>rfl) (λ_ _ _ ho hu=>⟨ho,hu⟩);have hlk:∀b y,g.lab b=some y->b∉f2->g'.lab b=some y:=by intro b y hb hm;show(if b∈f2 then _ else _)=_;rw[aD hm];exact hb
 have hnot:∀b y,y≠ .box s->g.lab b=some y->b∉f2:=λb y hy hb hm=>hy (by have:=hl b (by simp[hm]);rw[hb]at this;simpa using this);refine⟨g',h.step (λy=>y≠ .box s) hle h.defers h.size (by show(st.eZ s _).boxes.length=st.slots.length;rw[kl,aB];exact h.bsize) h.frame ?_ (λb y hy hb=>⟨hlk b y hb (hnot b y hy hb),rfl,rfl⟩) ?_ ?_ ?_ (.inl ⟨by simp,rfl⟩)⟩;intro b y hy;have hy':(if b∈f2 then some (jX.hand 0) else g.lab b)=some y:=hy;by_cases hm:b∈f2;exact h.labs b _ (hl b (by simp[hm]));rw[aD hm]at hy';exact h.labs b y hy';exact λi av hi=> .inl ⟨by simp,hi,rfl⟩;intro t cs' ht;have ht':(st.boxes.set s (some (eQ cs off (bc st.ep ((cs.drop off).take n)))))[t]?=some (some cs'):=by rw[<-kl];exact ht
 by_cases hts:t=s;subst hts;rw[bH]at ht';simp only[cg,hslt]at ht';simp at ht';subst ht';have hsp:eQ cs off (bc st.ep ((cs.drop off).take n))=cs.take off++bc st.ep ((cs.drop off).take n)++cs.drop (off+n):=by simp only[eQ,bc,bP,aV,aK];rw[iu (by omega)]
 refine .inr ⟨arr,T,fr,f1++f3,hblk,hth,?_,?_,?_,?_,?_,hw0⟩;have e:arr.toList=arr.toList.take off++(arr.toList.drop off).take n++arr.toList.drop (off+n):=by rw[<-fg,aZ,cD,cD]
 have hm1:=r1.mono hle (λb _=>⟨rfl,rfl⟩);have hm2:=(r2.bc).mono hle (by simp);have hm3:=r3.mono hle (λb _=>⟨rfl,rfl⟩);have hm4:=(hm1.append hm2).append hm3;rw[<-e,bK]at hm4;have e3:cs.take off++bc (dc C g st w).ep ((cs.drop off).take n)++cs.drop (off+n)=eQ cs off (bc st.ep ((cs.drop off).take n)):=hsp.symm;rw[e3]at hm4;exact hm4;refine aO.2 ⟨n1.1,n2.2.1,?_⟩;rintro b hb c hc rfl;exact n1.2.2 b hb b (bw _ hc) rfl;intro hm;have hm':g.β t∈f1++f3:=hm;refine hnb ?_;rcases ay.1 hm' with k|k;exact bI _ (bI _ k);exact bw _ k;intro b hb;refine hlk b _ (hl b (by simp at hb⊢;rcases hb with hb|hb<;>simp[hb])) ?_;intro hm;rcases ay.1 hb with hb|hb;exact n1.2.2 b hb b (bI _ hm) rfl;exact n2.2.2 b hm b hb rfl;refine hlk _ _ hl0 (λhm=>hnb ?_);have hm':g.β t∈f2:=hm;exact bI _ (bw _ hm');rw[aP (cR hts)]at ht';exact .inl ⟨by simpa using hts,ht',rfl⟩;intro k u av hk;cases k with
 |zero=>simp only[cA,br,Prod.mk.injEq]at hk;obtain⟨rfl,rfl⟩:=hk;refine .inr ⟨f2,⟨_,hcut arr T fr hblk,r2.mono hle (λb _=>⟨rfl,rfl⟩)⟩,n2.1,λb hb=>?_⟩;show(if b∈f2 then _ else _)=_;rw[aE hb]
 |succ k=>simp at hk
theorem hY.header {xs:aw e.D}(r:hY c v (.sl fl e xs) fp):∃o n k,v=.slice o n k/\n=xs.length:=by
 cases fl with
 |own t=>obtain⟨⟨u,hu,h⟩,_⟩:=r;simp at hu;subst hu;rcases h with⟨⟨_,rfl⟩,rfl,_⟩|⟨b,o0,cap,arr,T,fr,fps,rfl,_⟩;exact⟨_,_,_,rfl,rfl⟩;exact⟨_,_,_,rfl,rfl⟩
 |arg _=>obtain⟨_,u,hu,h⟩:=r;simp at hu;subst hu;rcases h with⟨⟨ad,rfl⟩,rfl⟩|⟨b,o,cap,rfl,_⟩;exact⟨_,_,_,rfl,rfl⟩;exact⟨_,_,_,rfl,rfl⟩
 |loc ep pv=>exact r.2.2.1
 |nest _ _ _ _ _ _=>exact r.2.2.1
 |part _ _ _ _=>exact r.2.2.1
 |holed _ _ _=>obtain⟨_,⟨k,_,b,o0,cap,arr,T,fr,fps,rfl,_⟩,_⟩:=r;exact⟨_,_,_,rfl,rfl⟩
theorem Mp {c:RC}{b n o0 len cap t:Nat}{rt:kG}{e:CT}{i:Int}(hi:c.iss t)(hn:i=n)(hh:c.hdr t=.slice (some ⟨b,o0,none⟩) len cap)(hl:n<len):∀(cs:aw AC)(p:Nat){vs:iS},bR c vs cs []->
 (∀j u,vs[j]?=some u->c.S b (o0+n*e.size+(p+j))/\c.w.cell? ⟨b,o0+n*e.size+(p+j),none⟩=some u)->bR c vs (RD c.ep rt t e i p cs) []
 |[],_,vs,h,_=>by cases vs<;>exact h
 |x::cs,p,vs,h,hc=>by
  cases vs with
  |nil=>exact h.elim
  |cons v vs=>
   obtain⟨f1,f2,hf,h1,h2⟩:=h;have e1:f1=[]:=by have:=hf.symm;simp at this;exact this.1
   have e2:f2=[]:=by have:=hf.symm;simp at this;exact this.2
   subst e1;subst e2;have hrest:=Mp (rt:=rt) (e:=e) hi hn hh hl cs (p+1) h2 (λj u hu=>by have:=hc (j+1) u (by simpa using hu);rwa[show p+(j+1)=p+1+j by omega]at this);have hv:=hc 0 v rfl;cases x with|sl fl e' xs=>refine⟨[],[],rfl,⟨rfl,bh _,?_,λ_=>⟨hi,n,b,o0,len,cap,hn,hh,hl,?_,?_⟩⟩,hrest⟩;exact hY.header h1;have:=hv.1;rwa[eG]at this;have:=hv.2;rwa[eG]at this|int _ _=>exact⟨[],[],rfl,h1,hrest⟩|bool _=>exact⟨[],[],rfl,h1,hrest⟩|str _=>exact⟨[],[],rfl,h1,hrest⟩|nilsl=>exact⟨[],[],rfl,h1,hrest⟩|ptr _ _=>exact⟨[],[],rfl,h1,hrest⟩|elt _ _ _ _ _=>exact⟨[],[],rfl,h1,hrest⟩|fn _=>exact⟨[],[],rfl,h1,hrest⟩|un=>exact⟨[],[],rfl,h1,hrest⟩|bot=>exact⟨[],[],rfl,h1,hrest⟩
theorem amY {w:World}{xs:aw e.D}(h:fM hw w (.sl e) [v] xs fp0){x:e.D}(hx:xs[n]?=some x): ∃b o0 cap arr T fr fx,v=.slice (some ⟨b,o0,none⟩) xs.length cap/\w.heap[b]?=some (.cells arr T fr)/\fM hw w e ((arr.toList.drop (o0+n*e.size)).take e.size) x fx:=by obtain⟨u,hu,h⟩:=h;simp at hu;subst hu;have hnl:n<xs.length:=(aC.1 hx).1;rcases h with⟨⟨_,rfl⟩,rfl,rfl⟩|⟨b,o0,cap,arr,T,fr,fps,rfl,hb,hth,hs,hc,hh,rfl,hl,hr⟩;simp at hx;have hfn:fps[n]?=some fps[n]:=al (by omega);exact⟨b,o0,cap,arr,T,fr,_,rfl,hb,hr n x _ hx hfn⟩
theorem Yg {E:Env}(hE:jA P E.ty){o:Oper}(ho:o.op=.load T p)(hg:ez C g st a w []){K:AS->az R}{x:e.D}{i:Int}(hT:jn E.ty T=some sh)(hpv:hY (dc C g st w) (a.eval p) (.elt fl e x i off) [])(hk:Cw o sh fl e i off st K=some r):mL P C o a w K r:=by
 unfold Cw at hk;split at hk;rename_i ep rt t;obtain⟨_,b,ob,hv,_,_,hroot⟩:=hpv;obtain⟨_,n,o0,len,cap,hin,hrt,hnl,hob⟩:=hroot rt t rfl;split at hk;rename_i t' e' ys hget;split at hk;rename_i he;subst he;split at hk;rename_i hc;obtain⟨rfl,hfit⟩:=hc;simp only at hk;cases hix:idx ys i with
 |none=>rw[hix]at hk;simp[aa]at hk
 |some y=>
  rw[hix]at hk;simp only[aa]at hk;have hyn:ys[n]?=some y:=by rw[hin]at hix;exact hix
  obtain⟨v0,f2,hh,hown,_,_,_⟩:=hg.RR rt hget;obtain⟨b2,o2,cap2,arr,T',fr,fx,hv0,hblk,hownx⟩:=amY hown hyn;have h1:=hh t' rfl;have h2:g.hdr t'=.slice (some ⟨b,o0,none⟩) len cap:=hrt;rw[h2,hv0]at h1;simp only[Value.slice.injEq,br,Addr.mk.injEq]at h1;obtain⟨⟨rfl,rfl,_⟩,_⟩:=h1;have hln:((arr.toList.drop (o2+n*e'.size)).take e'.size).length=e'.size:=fM.length hownx;have hrep:jr w (dc C g st w).S e' ((arr.toList.drop (o2+n*e'.size)).take e'.size) y:=fM.rep (λb o ho=> .inr ho) hownx;have hrel:bR (dc C g st w) ((arr.toList.drop (o2+n*e'.size)).take e'.size) (cellsOf e' (.loc st.ep none) y) []:=Ev (c:=dc C g st w) hrep;have hcell:∀j u,((((arr.toList.drop (o2+n*e'.size)).take e'.size).drop off).take sh.ct.size)[j]?=some u->w.cell? ⟨b2,ob+off+j,none⟩=some u:=by intro j u hu;rw[dV]at hu;split at hu;rw[bU,dV]at hu;split at hu;rw[bU,cB]at hu;rw[oS hblk,hob,fW];exact hu;cases hu;cases hu
  obtain⟨v,hrun,hcut⟩:=xO (hE T sh hT) b2 (ob+off) ((((arr.toList.drop (o2+n*e'.size)).take e'.size).drop off).take sh.ct.size) (by simp only[aV,aK]at hln⊢;omega) hcell;have hrun':(execOp a.eval o).run P w=.ok (.value v) w:=by simp only[execOp,ho,hv,Instr.loadAt,Instr.sureAddr,Sem.run_bind,Sem.run_pure,Result.andThen_ok];show((loadVar T ⟨b2,ob+off,none⟩).run P w).andThen _=_;rw[hrun];rfl
  obtain⟨f1,f2',f3,hf,_,r2,_⟩:=hrel.mid off sh.ct.size;have hf2:f2'=[]:=by cases f2' with|nil=>rfl|cons y ys=>simp at hf
  subst hf2;refine⟨_,_,_,.inl hrun',⟨g,hg.quiet o.dst ?_⟩,hk⟩;exact⟨_,hcut,r2⟩
 cases hk;cases hk;cases hk;cases hk
theorem Dp {fps:aw fu}{f:fu}(h:fps[n]?=some f): fps.flatten=(fps.take n).flatten++f++(fps.drop (n+1)).flatten/\∀f',(fps.set n f').flatten=(fps.take n).flatten++f'++(fps.drop (n+1)).flatten:=by
 have hn:n<fps.length:=(aC.1 h).1;have hf:fps[n]=f:=by rw[al hn]at h;simpa using h
 constructor
 ·conv=>lhs;rw[<-cD n fps,ca hn,hf]
  simp
 intro f';rw[List.set_eq_take_append_cons_drop,aE hn];simp
theorem aes {w:World}{xs:aw e.D}(h:fM hw w (.sl e) [v] xs fp0){x:e.D}(hx:xs[n]?=some x): ∃b o0 cap arr T fr f1 fx f3,v=.slice (some ⟨b,o0,none⟩) xs.length cap/\w.heap[b]?=some (.cells arr T fr)/\fM hw w e ((arr.toList.drop (o0+n*e.size)).take e.size) x fx/\ fp0=b::(f1++fx++f3)/\acT hw w e v xs n (b::(f1++f3)):=by obtain⟨u,hu,h⟩:=h;simp at hu;subst hu;have hnl:n<xs.length:=(aC.1 hx).1;rcases h with⟨⟨_,rfl⟩,rfl,rfl⟩|⟨b,o0,cap,arr,T,fr,fps,rfl,hb,hth,hs,hc,hh,rfl,hl,hr⟩;simp at hx;have hfn:fps[n]?=some fps[n]:=al (by omega);have hfs:=Dp hfn;refine⟨b,o0,cap,arr,T,fr,(fps.take n).flatten,fps[n],(fps.drop (n+1)).flatten,rfl,hb,hr n x _ hx hfn,by rw[hfs.1],?_⟩;refine⟨b,o0,cap,arr,T,fr,fps.set n [],rfl,hb,hth,hs,hc,hh,by rw[hfs.2];simp,by simp[hl],hnl,by rw[bH];simp[hl,hnl],λi x' f hi hx' hf=>?_⟩;rw[aP (cR hi)]at hf;exact hr i x' f hx' hf
theorem R9 {E:Env}(hE:jA P E.ty){o:Oper}(ho:o.op=.load T p)(hg:ez C g st a w []){K:AS->az R}{x:e.D}{i:Int}(hT:jn E.ty T=some sh)(hpv:hY (dc C g st w) (a.eval p) (.elt fl e x i off) [])(hk:xY o sh fl e i off st K=some r):mL P C o a w K r:=by
 unfold xY at hk;split at hk;rename_i ep rt t;obtain⟨_,b,ob,hv,_,_,hroot⟩:=hpv;obtain⟨_,n,o0,len,cap,hin,hrt,hnl,hob⟩:=hroot rt t rfl;split at hk;rename_i t' e' ys hget;split at hk;rename_i he;subst he;split at hk;rename_i hc;obtain⟨rfl,rfl,hct⟩:=hc;simp only at hk;cases hix:idx ys i with
 |none=>rw[hix]at hk;simp[aa]at hk
 |some y=>
  rw[hix]at hk;simp only[aa]at hk;have hyn:ys[n]?=some y:=by rw[hin]at hix;exact hix
  obtain⟨v0,f2,hrel0,hn2,_,hfin⟩:=hg.aeG rt (by simp) hget;obtain⟨b2,o2,cap2,arr,T',fr,f1,fx,f3,hv0,hblk,hownx,hfp,hhole⟩:=aes hrel0.1 hyn;have h1:=(hrel0.2 t' rfl).2;have h2:g.hdr t'=.slice (some ⟨b,o0,none⟩) len cap:=hrt;have h1':v0=g.hdr t':=h1;rw[h2,hv0]at h1';simp only[Value.slice.injEq,br,Addr.mk.injEq]at h1';obtain⟨⟨rfl,rfl,_⟩,_⟩:=h1';have hblk:w.heap[b2]?=some (.cells arr T' fr):=hblk;have hln:((arr.toList.drop (o2+n*e'.size)).take e'.size).length=e'.size:=fM.length hownx;have hcell:∀j u,((arr.toList.drop (o2+n*e'.size)).take e'.size)[j]?=some u->w.cell? ⟨b2,ob+0+j,none⟩=some u:=by intro j u hu;rw[dV]at hu;split at hu;rw[bU,cB]at hu;rw[oS hblk,hob,eG];exact hu;cases hu
  obtain⟨v,hrun,hcut⟩:=xO (hE T sh hT) b2 (ob+0) ((arr.toList.drop (o2+n*e'.size)).take e'.size) (by rw[hln,hct]) hcell;have hrun':(execOp a.eval o).run P w=.ok (.value v) w:=by simp only[execOp,ho,hv,Instr.loadAt,Instr.sureAddr,Sem.run_bind,Sem.run_pure,Result.andThen_ok];show((loadVar T ⟨b2,ob+0,none⟩).run P w).andThen _=_;rw[hrun];rfl
  rw[hfp]at hn2;have hnb:=dA.1 hn2;have hn3:=hnb.2;rw[aZ]at hn3;have m1:=aO.1 hn3;have m2:=aO.1 m1.2.1;obtain⟨g',hg'⟩:=hfin (.sl (.holed (some t') i (some st.ep)) e' ys) (b2::(f1++f3)) fx v (.val sh.agg (cellsOf e' (.own none) y)) (λc' hle hcw hchw hep=>by refine⟨λq hq=>?_,⟨n,hin,by rw[hcw,hchw];exact hhole⟩,λt ht=>?_⟩;simp at hq;subst hq;refine⟨by rw[hep];exact bh _,λ_=>?_⟩;refine fM.rep (hw:=c'.hw) (fp:=f2) (λb o ho=> .inr ho) ?_;rw[hcw,hchw];exact hrel0.1;simp at ht;subst ht;have h0:=hrel0.2 t' rfl;exact⟨(hle.hdr t' h0.1).1,by rw[(hle.hdr t' h0.1).2];exact h0.2⟩) (by refine dA.2 ⟨λhm=>hnb.1 (by rcases ay.1 hm with k|k<;>simp[k]),aO.2 ⟨m1.1,m2.2.1,?_⟩⟩;rintro c hc d hd rfl;exact m1.2.2 c hc c (bw _ hd) rfl) m2.1 (λc hc=>by rw[hfp];rcases bQ.1 hc with rfl|hc;exact⟨by simp,λhm=>hnb.1 (by simp[hm])⟩;rcases ay.1 hc with hc|hc;exact⟨by simp[hc],λhm=>m1.2.2 c hc c (bI _ hm) rfl⟩;exact⟨by simp[hc],λhm=>m2.2.2 c hm c hc rfl⟩) (λc hc=>by rw[hfp];simp[hc]) ⟨_,hcut,zu (c:=dc C g st w) hownx⟩;exact⟨_,_,_,.inl hrun',ez.Cn hg' o.dst,hk⟩
 cases hk;cases hk;cases hk;cases hk
theorem abo {E:Env}(hE:jA P E.ty){an:An}{o:Oper}(ho:o.op=.load T p)(h:oa C st a w){K:AS->az R}(hk:ph E an o T p st K=some r):mL P C o a w K r:=by
 unfold ph at hk;obtain⟨g,hg⟩:=id h;split at hk;rename_i sh s off hT hp;have hpv:=hg.rd p;rw[hp]at hpv;have hpv:=AU hpv;split at hk;rename_i cs hbx;have hbx:st.boxes[s]?=some (some cs):=by rw[ei]at hbx;cases hq:st.boxes[s]? with|none=>rw[hq]at hbx;simp at hbx|some q=>rw[hq]at hbx;simp at hbx;rw[hbx]
 split at hk;rename_i hfit;obtain⟨arr,T',fr,fp,hblk,hth,hr,hn,hnb,hl,hl0,hw0⟩:=hg.boxes s cs hbx;have hlen:=hr.length;have hmid:=N7 hblk off sh.ct.size;obtain⟨v,hrun,hcut⟩:=xO (hE T sh hT) (g.β s) off ((arr.toList.drop off).take sh.ct.size) (by simp at hlen⊢;omega) hmid;have hrun':(execOp a.eval o).run P w=.ok (.value v) w:=by simp only[execOp,ho,hpv,Instr.loadAt,Instr.sureAddr,Sem.run_bind,Sem.run_pure,Result.andThen_ok];show((loadVar T ⟨g.β s,off,none⟩).run P w).andThen _=_;rw[hrun];rfl
 split at hk;rename_i d hd;split at hk;obtain⟨g',hg'⟩:=hg.ah5 s hbx off sh.ct.size hfit (gg:=sh.agg) (v:=v) (λarr2 T2 fr2 h2=>by rw[hblk]at h2;simp at h2;obtain⟨rfl,_⟩:=h2;exact hcut);refine⟨_,_,_,.inl hrun',?_,hk⟩;rw[hd];exact ez.Cn hg' (some d);refine⟨_,_,_,.inl hrun',?_,hk⟩;rw[hd];refine⟨g,hg.quiet (some d) ⟨_,hcut,?_⟩⟩;obtain⟨f1,f2,f3,_,_,r2,_⟩:=hr.mid off sh.ct.size;exact bR.borrow (c:=dc C g st w) (.box s) off r2;cases hk;cases hk;cases hk;rename_i sh fl e x i off hT hp;have hpv:=hg.rd p;rw[hp]at hpv;have hpv:=eU hpv;split at hk;exact R9 hE ho hg hT hpv hk;split at hk;rename_i hlive;split at hk;rename_i hfit
 have key:∃b o cs,a.eval p=.pointer (some ⟨b,o+off,none⟩)/\(∀j v,cs[j]?=some v->w.cell? ⟨b,o+j,none⟩=some v)/\bR (dc C g st w) cs (cellsOf e fl.bare x) []/\
  ∀ep rt t,fl=.loc ep (some (rt,t))->(dc C g st w).iss t/\(∃n o0 len cap:Nat,i=n/\(dc C g st w).hdr t=.slice (some ⟨b,o0,none⟩) len cap/\n<len/\o=o0+n*e.size)/\∀j v,cs[j]?=some v->(dc C g st w).S b (o+j):=by
  cases fl with
  |own t=>exact hpv.elim
  |nest _ _ _ _ _ _=>exact hpv.elim
  |part _ _ _ _=>exact hpv.elim
  |holed _ _ _=>exact hpv.elim
  |arg _=>
   obtain⟨_,b,o,hv,cs,hc,hr⟩:=hpv
   exact⟨b,o,cs,hv,λj v hj=>(hc j v hj).2,Ec hr,λ_ _ _ he=>by cases he⟩
  |loc ep pv=>
   obtain⟨_,b,o,hv,h2,h3,h4⟩:=hpv
   have hep:ep=st.ep:=by simpa[qv.live]using hlive
   obtain⟨cs,hc,hr⟩:=h3 hep
   exact⟨b,o,cs,hv,λj v hj=>(hc j v hj).2,by simp only[qv.bare];rw[hep];exact Ev hr,λep' rt t he=>by cases he;obtain⟨k1,k2⟩:=h4 rt t rfl;exact⟨k1,k2,λj v hj=>(hc j v hj).1⟩⟩
 obtain⟨b,ob,cs,hv,hc,hrel,hpl⟩:=key;have hlen:=hrel.length;rw[kS]at hlen;obtain⟨v,hrun,hcut⟩:=xO (hE T sh hT) b (ob+off) ((cs.drop off).take sh.ct.size) (by simp;omega) (λj u hu=>by rw[dV]at hu;split at hu;rw[bU]at hu;have:=hc _ _ hu;rwa[<-fW]at this;cases hu);have hrun':(execOp a.eval o).run P w=.ok (.value v) w:=by simp only[execOp,ho,hv,Instr.loadAt,Instr.sureAddr,Sem.run_bind,Sem.run_pure,Result.andThen_ok];show((loadVar T ⟨b,ob+off,none⟩).run P w).andThen _=_;rw[hrun];rfl
 obtain⟨f1,f2,f3,hf,_,r2,_⟩:=hrel.mid off sh.ct.size;have hf2:f2=[]:=by cases f2 with|nil=>rfl|cons y ys=>simp at hf
 subst hf2;refine⟨_,_,_,.inl hrun',⟨g,hg.quiet o.dst ?_⟩,hk⟩;refine⟨_,hcut,?_⟩;unfold aeg;split;rename_i d _ _ _ _;cases an.nest.contains d with|false=>exact r2|true=>simp only[ah];obtain⟨k1,⟨n,o0,len,cap,hi,hh,hnl,ho'⟩,hS⟩:=hpl _ _ _ rfl;refine Mp (b:=b) (n:=n) (o0:=o0) (len:=len) (cap:=cap) k1 hi hh hnl _ off r2 (λj u hu=>?_);rw[dV]at hu;split at hu;rw[bU]at hu;rw[<-ho'];exact⟨hS _ _ hu,hc _ _ hu⟩;cases hu
 exact r2;cases hk;exact Yg hE ho hg hT hpv hk;cases hk
theorem E9 (h:off+vs.length<=cs.length):(eQ cs off vs).length=cs.length:=by simp[eQ];omega
theorem Fe {E:Env}(hE:jA P E.ty){o:Oper}{x:Operand}(hd:o.dst=none)(ho:o.op=.store T p x){K:AS->az R}{s:Nat}{st':AS}{g':Gh}(hT:jn E.ty T=some sh)(hpv:a.eval p=.pointer (some ⟨g'.β s,off,none⟩))(hg':ez C g' st' a w [(a.eval x,.val gg vs)])(hbx:(nth st'.boxes s).getD none=some cs)(hlen:vs.length=sh.ct.size)(hsol:vs.all AC.Hj=true)(hfit:off+sh.ct.size<=cs.length)(hk:K (st'.eZ s (some (eQ cs off vs)))=some r):mL P C o a w K r:=by
 have hbx:st'.boxes[s]?=some (some cs):=by rw[ei]at hbx;cases hq:st'.boxes[s]? with|none=>rw[hq]at hbx;simp at hbx|some q=>rw[hq]at hbx;simp at hbx;rw[hbx]
 obtain⟨arr,T',fr,fp,hblk,hth,hr,hn,hnb,hl,hl0,hw0⟩:=hg'.boxes s cs hbx;obtain⟨fh,⟨us,hcut,hrh⟩,hnh,hlh⟩:=hg'.hands 0 _ _ rfl;have h1:=hrh.mZ hsol;have hul:=hrh.length;have hal:=hr.length;have hfit':off+us.length<=arr.size:=by simp at hal;omega
 have hrunS:=Cz (P:=P) (w:=w) (hE T sh hT) (g'.β s) off hcut (by omega) h1 hblk hth hfit';have hrun:(execOp a.eval o).run P w=.ok .skip (uj w (g'.β s) (eX arr off us) T' fr):=by simp only[execOp,ho,hpv,Instr.storeAt,Instr.sureAddr,Sem.run_bind,Sem.run_pure,Result.andThen_ok];show((storeVar T ⟨g'.β s,off,none⟩ (a.eval x)).run P w).andThen _=_;rw[hrunS];rfl
 have hbs:=mq hblk;obtain⟨f1,f2,f3,rfl,r1,r2,r3⟩:=hr.mid off us.length;have hn':=hn;rw[aZ]at hn';have n1:=aO.1 hn';have n2:=aO.1 n1.2.1;have hfh:∀b∈fh,b≠g'.β s/\b∉f1++f2++f3:=by intro b hb;have hlb:=hlh b hb;refine⟨λe=>?_,λhm=>?_⟩;rw[e,hl0]at hlb;cases hlb;rw[hl b hm]at hlb;cases hlb
 have hfrw:Fr (λb=>ed (g'.lab b)\/b=g'.β s) w (uj w (g'.β s) (eX arr off us) T' fr):=⟨rfl,rfl,rfl,by rw[lM];exact bh _,λb _ hb=>mI (λe=>hb (.inr e))⟩
 have hβ2:∀t,(if t=s then g'.β s else g'.β t)=g'.β t:=by intro t;split<;>simp_all
 have hle:(dc C g' st' w).Le ⟨g'.hw,λt=>if t=s then g'.β s else g'.β t,C.A,g'.hdr,mM st',st'.ep,jq st',uj w (g'.β s) (eX arr off us) T' fr⟩:=by
  refine⟨rfl,λ_ ht=>⟨ht,rfl⟩,λk b o u hA hu=>?_,bh _,λt ht=>⟨ht,hβ2 t⟩,λ_ b o u ho hu=>⟨ho,?_⟩⟩;have hne:b≠g'.β s:=by rintro rfl;exact hg'.Me hl0 k o hA
  rw[World.cell?_of_block (a:=⟨b,o,none⟩) (mI hne)];exact hu;have hne:b≠g'.β s:=by rintro rfl;have ho':o<g'.hw (g'.β s):=ho;rw[hw0]at ho';omega
  rw[World.cell?_of_block (a:=⟨b,o,none⟩) (mI hne)];exact hu
 have hkeep:∀b,b≠g'.β s->(uj w (g'.β s) (eX arr off us) T' fr).heap[b]?=w.heap[b]?:=λb hb=>mI hb;have hrel:bR ⟨g'.hw,λt=>if t=s then g'.β s else g'.β t,C.A,g'.hdr,mM st',st'.ep,jq st',uj w (g'.β s) (eX arr off us) T' fr⟩ (eX arr off us).toList (eQ cs off vs) (f1++fh++f3):=by
  rw[vF us arr off hfit'];have e2:eQ cs off vs=cs.take off++vs++cs.drop (off+us.length):=by simp only[eQ];rw[hul]
  rw[e2];refine((r1.mono hle (λb hb=>⟨hkeep b (λe=>hnb (by rw[<-e];simp[hb])),rfl⟩)).append (hrh.mono hle (λb hb=>⟨hkeep b (hfh b hb).1,rfl⟩))).append (r3.mono hle (λb hb=>⟨hkeep b (λe=>hnb (by rw[<-e];simp[hb])),rfl⟩))
 have hnod:(f1++fh++f3).Nodup:=by rw[aZ];refine aO.2 ⟨n1.1,aO.2 ⟨hnh,n2.2.1,?_⟩,?_⟩;rintro b hb c hc rfl;exact(hfh b hb).2 (by simp[hc]);rintro b hb c hc rfl;rcases ay.1 hc with hc|hc;exact(hfh b hc).2 (by simp[hb]);exact n1.2.2 b hb b (bw _ hc) rfl
 obtain⟨g2,_,hg2⟩:=hg'.Wf s (bnew:=g'.β s) (hw':=g'.hw) (.inl ⟨rfl,hl0⟩) hfrw (wM hbs) (λj hj=>hth j (by rwa[iP]at hj)) (by rw[lM];exact hbs) hw0
  (λ_ _ _ _ _=>rfl) (λb o u ho hu=>hle.prot rfl b o u ho hu) hrel hnod
  (by intro hm;simp only[ay]at hm
      rcases hm with(hm|hm)|hm
      ·exact hnb (by simp[hm])
      ·exact(hfh _ hm).1 rfl
      ·exact hnb (by simp[hm]))
  (by intro b hm;rw[lM];simp only[ay]at hm
      rcases hm with(hm|hm)|hm
      ·exact⟨(hg'.labs b _ (hl b (by simp[hm]))).1,.inr (.inl (hl b (by simp[hm])))⟩
      ·exact⟨(hg'.labs b _ (hlh b hm)).1,.inl (by rw[hlh b hm];rfl)⟩
      ·exact⟨(hg'.labs b _ (hl b (by simp[hm]))).1,.inr (.inl (hl b (by simp[hm])))⟩)
 refine⟨undef,_,_,.inr ⟨rfl,hrun⟩,?_,hk⟩;rw[hd];exact⟨g2,hg2⟩
theorem NW {E:Env}(hE:jA P E.ty){o:Oper}{x:Operand}(hd:o.dst=none)(ho:o.op=.store T p x)(h:oa C st a w){K:AS->az R}{s:Nat}{st':AS}(hT:jn E.ty T=some sh)(hp:st.rd p=.val false [.ptr s off])(htk:st.take x=(.val gg vs,st'))(hbx:(nth st'.boxes s).getD none=some cs)(hlen:vs.length=sh.ct.size)(hsol:vs.all AC.Hj=true)(hfit:off+sh.ct.size<=cs.length)(hk:K (st'.eZ s (some (eQ cs off vs)))=some r):mL P C o a w K r:=by obtain⟨g,hg⟩:=h;have hpv:=hg.rd p;rw[hp]at hpv;have hpv:=AU hpv;obtain⟨g',⟨hβ,_⟩,hg'⟩:=hg.agl x;rw[htk]at hg';exact Fe hE hd ho hT (by rw[hβ];exact hpv) hg' hbx hlen hsol hfit hk
end Go.Dn
