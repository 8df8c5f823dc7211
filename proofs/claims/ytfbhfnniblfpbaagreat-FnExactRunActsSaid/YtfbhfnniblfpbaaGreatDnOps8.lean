import Derived.Test.YtfbhfnniblfpbaaGreatDnOps7
/- Part 8: copy, and fields of structs in slots. -/
namespace Go.Dn
open Go.RowKit
variable {P:Program} {C:Ctx} {st:AS} {a:Act} {w:World} {R:Type} {r:R}
variable {lo:Nat} {ys:ew}
theorem T1 {zs:ew}(h:lo+zs.length<=ys.length):(Ey ys lo zs).length=ys.length:=by simp[Ey];omega
theorem acD {zs:ew}(h:lo+zs.length<=ys.length)(j:Nat):(Ey ys lo zs)[j]?=if lo<=j/\j<lo+zs.length then zs[j-lo]? else ys[j]?:=by
 unfold Ey;have hl:(ys.take lo).length=lo:=by simp;omega
 by_cases h1:j<lo;rw[mI,bw (by omega),cW,aG h1];rw[bq (by omega),hl];by_cases h2:j<lo+zs.length;rw[zip,bw (by omega)];rw[mI,bq (by omega),bJ];congr 1;omega
theorem acE:Ey ys lo []=ys:=by simp[Ey]
theorem abo {o:Oper}{s x:Operand}{t t':TypeId}(ho:o.op=.call {callee:=.builtin .copy,args:=#[s,x],argTypes:=#[t,t']}){v:Value}{w':World}(h:(Builtin.copy_ #[t,t'] o.type #[a.eval s,a.eval x]).run P w=.ok v w'):(execOp a.eval o).run P w=.ok (.value v) w':=by
 have e1:(#[s,x]:Array Operand).map a.eval=#[a.eval s,a.eval x]:=by simp
 simp only[execOp,ho,resolve,e1,Sem.run_bind,Sem.run_pure,Result.andThen_ok,invoke,builtin];show((Builtin.copy_ #[t,t'] o.type #[a.eval s,a.eval x]).run P w).andThen _=_;rw[h];rfl
theorem abd {E:Env}(hE:js P E.ty){o:Oper}{args:Array Operand}{ts:Array TypeId}(ho:o.op=.call {callee:=.builtin .copy,args,argTypes:=ts})(h:nv C st a w){K:AS->au R}(hk:Ri E o ts.toList args.toList st K=some r):nb P C o a w K r:=by
 obtain⟨g,hg⟩:=h;unfold Ri at hk;split at hk;rename_i t t' ep rt tg lo e xs s qW fb;obtain⟨x,y,rfl,hx,hy⟩:=Qh fb;have et:ts=#[t,t']:=by apply ei;simpa using qW
 subst et;split at hk;rename_i tg' e' ys gX;split at hk;rename_i hee;subst hee;split at hk;rename_i hc;obtain⟨rfl,hT,hT',xY,rfl⟩:=hc;simp only at hk;have vT:=hg.rd x;rw[hx]at vT;have hxc:=dU vT;have RK:=hg.rd y;rw[hy]at RK;have hsv:=(dU RK).1;obtain⟨te,hu,⟨⟨inf,z,Em,tw,_⟩,_⟩⟩:=HC hE hT;have aq8:inf.size=1:=tw;obtain⟨v0,f2,dD,C2,AA,lG⟩:=hg.Ub rt (by simp) gX;obtain⟨_,_,⟨o1,n1,k1,hv1,EM⟩,VH⟩:=hxc;obtain⟨GH,VH⟩:=VH xY;have hm:(s.take xs.length).length=Nat.min s.length xs.length:=by simp[Nat.min_comm]
 have hzl:(dp (s.take xs.length)).length=Nat.min s.length xs.length:=by rw[dp,cr,hm]
 have DS:((ByteArray.mk s.toArray).extract 0 (Nat.min s.length xs.length)).data.map (λb=>Value.int .u8 b.toNat)=((dp (s.take xs.length)).map (Value.int .u8)).toArray:=by
  rw[extract_mk];simp only[fa,dp,List.map_map];have:s.take (Nat.min s.length xs.length)=s.take xs.length:=by show s.take (min s.length xs.length)=_;rcases Nat.le_total s.length xs.length with h|h;rw[iW h,bB (aR _),bB h];rw[Nat.min_eq_right h]
  rw[this];simp;rfl
 have hN:(Nat.min xs.length s.length:Nat)=Nat.min s.length xs.length:=Nat.min_comm _ _
 have dJ:∀w',(match o1 with|some ad=>(storeCells ad ((dp (s.take xs.length)).map (Value.int .u8))).run P w=.ok () w'|none=>w'=w)->
  (execOp a.eval o).run P w=.ok (.value (.int .i64 (Nat.min xs.length s.length:Nat))) w':=by
  intro w' hw
  refine abo ho ?_
  rw[hv1,EM,hsv,hN]
  simp only[Builtin.copy_]
  simp only[underlying,Sem.run_bind,run_program,hu,Result.andThen_ok,Sem.run_pure,List.getElem?_toArray,cq,eI,Builtin.lenOf,sizeOf,typeInfo,Em,Builtin.firstCells,zj,DS]
  cases o1 with
  |none=>simp only at hw;subst hw;simp[goInt]
  |some ad=>simp only at hw;simp[hw,goInt]
 have key:∀w',(match o1 with|some ad=>(storeCells ad ((dp (s.take xs.length)).map (Value.int .u8))).run P w=.ok () w'|none=>w'=w)->Fr (λb=>cY (g.dK b)\/b∈f2) w w'->w'.heap.size=w.heap.size->
  ez g.hw w' (.sl (.int .u8)) [v0] (Ey ys lo.toNat (dp (s.take xs.length))) f2->nb P C o a w K r:=by
  intro w' hw gP abD eR
  obtain⟨g',na⟩:=lG w' g.hw (.sl (.own (some tg')) (.int .u8) (Ey ys lo.toNat (dp (s.take xs.length)))) f2 (λc' hle Nh B7=>⟨by rw[Nh,B7];exact eR,λt ht=>by have h1:=dD.2 t ht;exact⟨(hle.hdr t h1.1).1,by rw[(hle.hdr t h1.1).2];exact h1.2⟩⟩) C2 (λb hb=>⟨by rw[abD];exact(hg.fB b _ (AA b hb)).1,.inl hb⟩) gP (λ_ _ _ _ _=>rfl)
  exact⟨_,_,_,.inl (dJ w' hw),⟨g',na.quiet o.dst (av:=.one (.int .i64 (min xs.length s.length:Nat))) (mO (kE _ _ _))⟩,hk⟩
 have MA:v0=g.hdr tg':=(dD.2 tg' rfl).2;have eR:=dD.1;by_cases hxs:xs=[]
 subst hxs;have hz:dp (s.take ([]:ew).length)=[]:=by simp[dp]
 rw[hz]at key;refine key w ?_ (Fr.refl _ _) rfl (by rw[acE];exact eR);cases o1 with|none=>rfl|some ad=>simp[storeCells]
 rcases VH with rfl|⟨n,b,o0,len,cap,k2,hlo,Ka,hle,hvx⟩;exact absurd rfl hxs;have Ka:g.hdr tg'=.slice (some ⟨b,o0,none⟩) len cap:=Ka;rw[hv1]at hvx;simp only[Value.slice.injEq,CT.size,nA]at hvx;obtain⟨rfl,_,_⟩:=hvx;obtain⟨u,RI,hO⟩:=eR;simp at RI;subst RI;rw[Ka]at MA;have hxl:xs.length≠0:=λh=>hxs (cz h);rcases hO with⟨⟨ad,rfl⟩,rfl,rfl⟩|⟨b2,o2,U6,arr,T,fr,fps,rfl,hb,qV,hs,hc,hh,rfl,hl,hr⟩;simp only[Value.slice.injEq]at MA;omega;have hb:w.heap[b2]?=some (.cells arr T fr):=hb;simp only[Value.slice.injEq,aZ,Addr.mk.injEq]at MA;obtain⟨⟨rfl,rfl,_⟩,hyl,rfl⟩:=MA;simp only[CT.size,nA]at hs hh hr;have hh:g.hw b2=o2+ys.length:=hh;have aqx:lo.toNat=n:=by omega
 have aq7:Nat.min s.length xs.length<=xs.length:=Nat.min_le_right _ _;have gI:n+(dp (s.take xs.length)).length<=ys.length:=by rw[hzl];omega
 have ahL:o2+n+((dp (s.take xs.length)).map (Value.int .u8)).length<=arr.size:=by rw[cr];omega
 have lH:=xN P b2 (o2+n) T fr ((dp (s.take xs.length)).map (Value.int .u8)) 0 w arr hb qV (by simpa using ahL) (by simp[Value.oneCell']);simp only[dM]at lH;have II:=mr hb;refine key _ lH ⟨rfl,rfl,rfl,by rw[lV];exact aR _,λc _ hc=>mY (λe=>hc (.inr (by simp[e])))⟩ (lV ..) ?_;rw[aqx];have hlen:=T1 gI;refine⟨_,rfl,.inr ⟨b2,o2,U6,_,T,fr,fps,by rw[hlen],yB II,λj hj=>qV j (by rwa[iD]at hj),by rw[iD];simpa[CT.size]using hs,by rw[hlen];exact hc,by rw[hlen];simpa[CT.size]using hh,rfl,by rw[hlen];exact hl,?_⟩⟩;intro i q f hq hf;simp only[CT.size,nA];have OP:i<ys.length:=by have:=(aD.1 hq).1;omega
 have hold:=hr i ys[i] f (al OP) hf;refine⟨?_,hold.2⟩;have AQ:(eF arr (o2+n) ((dp (s.take xs.length)).map (Value.int .u8))).toList[o2+i]?=some (.int .u8 q):=by
  rw[Ad ahL];rw[acD gI]at hq;simp only[cr];by_cases uw:n<=i/\i<n+(dp (s.take xs.length)).length;rw[aG uw]at hq;rw[zip,show o2+i-(o2+n)=i-n by omega,List.getElem?_map,hq];rfl;rw[aF uw]at hq;rw[mI];have h1:=hold.1;have h2:((arr.toList.drop (o2+i)).take 1)[0]?=some (.int .u8 ys[i]):=by rw[h1];rfl
  rw[jl]at h2;simp only[Nat.zero_lt_one,bL,dM]at h2;rw[al OP]at hq;simp at hq;rw[h2,hq]
 have gV:o2+i<(eF arr (o2+n) ((dp (s.take xs.length)).map (Value.int .u8))).toList.length:=(aD.1 AQ).1;rw[cl gV];have:=(aD.1 AQ).2;simp[this];cases hk;cases hk;cases hk;cases hk
def Z6 (P:Program)(l:aq ((Nat×Nat)×Nat)):Prop:=∀S f T,V8 l S f=some T->∀fs fd,P.underlying S=some (.struct fs)->fs[f]?=some fd->fd.type=T
def ftB (P:Program)(x:(Nat×Nat)×Nat):Bool:=
 match P.underlying x.1.1 with
 |some (.struct fs)=>match fs[x.1.2]? with|some fd=>fd.type==x.2|none=>true
 |_=>true
theorem V9 {P:Program}:∀{l:aq ((Nat×Nat)×Nat)},(l.all (ftB P))=true->Z6 P l
 |[],_,S,f,T,h=>by simp[V8]at h
 |((u,k),U)::l,hl,S,f,T,h=>by
  simp only[bQ,ah]at hl;simp only[V8]at h;cases hu:(u==S&&k==f)with
  |true=>rw[hu]at h;simp at h hu;obtain⟨rfl,rfl⟩:=hu;subst h;intro fs fd hS hf;have:=hl.1;simp only[ftB,hS,hf]at this;simpa using this
  |false=>rw[hu]at h;exact V9 hl.2 S f T h
theorem afr {T:TypeId}{sh:Shape}(hT:adB P T sh)(cs:ie)(off:Nat)(gI:off+sh.ct.size<=cs.length): ∃v,(part T cs.toArray off).run P w=.ok v w/\Cut sh.agg v ((cs.drop off).take sh.ct.size):=by
 obtain⟨i,z,hi,tw,_⟩:=hT.elem.info;cases NG:sh.agg with
 |true=>obtain⟨fs,hu,_⟩:=hT.agg NG;refine⟨.agg (cs.toArray.extract off (off+sh.ct.size)),?_,?_⟩;simp only[part,isAgg,sizeOf,typeInfo,underlying,Sem.run_bind,run_program,hu,hi,Result.andThen_ok,Sem.run_pure,tw,bL,Sem.run_ite];simp only[Cut,bL];congr 1;apply ei;simp[List.take_drop]
 |false=>
  have h1:sh.ct.size=1:=by cases Mw:sh.ct with|pair a b=>have:=hT.pair a b Mw;rw[NG]at this;cases this|_=>rfl
  rw[h1]at gI⊢;have gV:off<cs.length:=by omega
  refine⟨cs[off],?_,?_⟩;have hnu:∃d,P.underlying T=some d/\(match d with| .struct _| .array _ _=>True|_=>False)=False:=by cases Mw:sh.ct with|pair a b=>have:=hT.pair a b Mw;rw[NG]at this;cases this|int k=>exact⟨_,hT.int k Mw NG,rfl⟩|bool=>exact⟨_,hT.bool Mw NG,rfl⟩|str=>exact⟨_,hT.str Mw NG,rfl⟩|sl e=>obtain⟨te,hu,_⟩:=hT.sl e Mw NG;exact⟨_,hu,rfl⟩
  obtain⟨d,hu,hd⟩:=hnu;simp only[part,isAgg,underlying,Sem.run_bind,run_program,hu,Result.andThen_ok,Sem.run_pure];cases d<;>simp at hd<;>simp[al gV];simp only[Cut,aY,cc];rw[cl gV];rfl
theorem Vk {E:Env}(hE:js P E.ty)(hF:Z6 P E.fts){o:Oper}{S:TypeId}{t f:Nat}(ho:o.op=.field S (.tmp t) f)(h:nv C st a w){K:AS->au R}(hk:HV E o S t f st K=some r):nb P C o a w K r:=by
 obtain⟨g,h⟩:=h;unfold HV at hk;split at hk;rename_i ct jZ cs T hS hg hT;split at hk;rename_i fo n sh QG hsh;split at hk;rename_i hc;obtain⟨rfl,hcl,gI⟩:=hc;obtain⟨fs,hu,IA⟩:=(hE S _ hS).agg rfl;rw[dB]at QG;obtain⟨fd,hfd,ajs,hn,i,hi,tw⟩:=IA f fo _ QG;have hty:=hF S f T hT fs fd hu hfd;have htl:t<st.slots.length:=by
  rcases bS t st.slots.length with gV|BM;exact gV;have:st.get t=.bot:=by simp[AS.get,dB,bH BM]
  rw[this]at hg;cases hg
 obtain⟨fp,hr,E3,hl⟩:=h.slot t;rw[hg]at hr;obtain⟨vs,eh,hr⟩:=hr;have hlen:=hr.length;obtain⟨v,VH,aje⟩:=afr (P:=P) (w:=w) (hE T sh hsh) vs fo (by omega);have dJ:(execOp a.eval o).run P w=.ok (.value v) w:=by
  have he:a.eval (.tmp t)=.agg vs.toArray:=by simp only[Cut,bL]at eh;exact eh
  simp only[execOp,ho,he,Instr.field,underlying,Sem.run_bind,run_program,hu,Result.andThen_ok,Sem.run_pure,hfd,asAgg,ajs,hty,VH]
 obtain⟨f1,f2,f3,rfl,r1,r2,r3⟩:=hr.mid fo sh.ct.size;have Tq:=E3;rw[aN]at Tq;have n1:=aB.1 Tq;have n2:=aB.1 n1.2.1;let Qy:AV:=.val true (db cs fo (aS st.ep ((cs.drop fo).take sh.ct.size)));let st':AS:=st.put (some t) Qy;let g':Gh:={g with dK:=λb=>if b∈f2 then some (.hand 0) else g.dK b}
 have hle:(cy C g st w).Le (cy C g' st' w):=by have:= @TM C g st w (some t) Qy;exact⟨this.A,this.hdr,this.U7,this.ep,this.KJ,this.acM⟩
 have XA:∀b y,g.dK b=some y->b∉f2->g'.dK b=some y:=by intro b y hb hm;show(if b∈f2 then _ else _)=_;rw[aF hm];exact hb
 have Ni:∀b y,y≠ .slot t->g.dK b=some y->b∉f2:=λb y hy hb hm=>hy (by have:=hl b (by simp[hm]);rw[hb]at this;simpa using this);have aqK:bn (cy C g' st' w) vs (db cs fo (aS st.ep ((cs.drop fo).take sh.ct.size))) (f1++f3):=by
  have hbl:(aS st.ep ((cs.drop fo).take sh.ct.size)).length=sh.ct.size:=by simp[aS];omega
  have e:vs=vs.take fo++(vs.drop fo).take sh.ct.size++vs.drop (fo+sh.ct.size):=by rw[aN,<-ec,cp,cp]
  have:=bn.append (bn.append (r1.mono hle (λb _=>⟨rfl,rfl⟩)) ((r2.aS).mono hle (by simp))) (r3.mono hle (λb _=>⟨rfl,rfl⟩));rw[<-e,bp]at this;rw[db,hbl];exact this
 have aiz:dx C g' st' a w [(v,.val sh.agg ((cs.drop fo).take sh.ct.size))]:=by
  refine h.step (λy=>y≠ .slot t) hle h.defers (by show _=(st.put (some t) Qy).slots.length;rw[fK,aH];exact h.size) (by show(st.put (some t) Qy).boxes.length=(st.put (some t) Qy).slots.length;rw[kR,fK,aH];exact h.bsize) h.frame ?_ (λb y hy hb=>⟨XA b y hb (Ni b y hy hb),rfl,rfl⟩) ?_ ?_ ?_ (.inl ⟨by simp,LI⟩);intro b y hy;have RJ:(if b∈f2 then some (je.hand 0) else g.dK b)=some y:=hy;by_cases hm:b∈f2;exact h.fB b _ (hl b (by simp[hm]));rw[aF hm]at RJ;exact h.fB b y RJ;intro j bv hj;have hj':(st.slots.set t Qy)[j]?=some bv:=by rw[<-fK];exact hj
  by_cases hjt:j=t;subst hjt;rw[bl]at hj';simp only[bL,htl]at hj';simp at hj';subst hj';refine .inr ⟨f1++f3,⟨vs,eh,aqK⟩,?_,?_⟩;refine aB.2 ⟨n1.1,n2.2.1,?_⟩;rintro b hb c hc rfl;exact n1.2.2 b hb b (ba _ hc) rfl;intro b hb;refine XA b _ (hl b (by rcases az.1 hb with k|k<;>simp[k])) (λhm=>?_);rcases az.1 hb with k|k;exact n1.2.2 b k b (bk _ hm) rfl;exact n2.2.2 b hm b k rfl;rw[aO (cJ hjt)]at hj';exact .inl ⟨by simpa using hjt,hj',rfl⟩;intro s nd hb;have gL:st.boxes[s]?=some (some nd):=by rw[<-kR (d:=some t) (v:=Qy)];exact hb
  exact .inl ⟨by simp,gL,rfl⟩;intro k u bv Ha;cases k with
  |zero=>simp only[cq,aZ,Prod.mk.injEq]at Ha;obtain⟨rfl,rfl⟩:=Ha;refine .inr ⟨f2,⟨_,aje,r2.mono hle (λb _=>⟨rfl,rfl⟩)⟩,n2.1,λb hb=>?_⟩;show(if b∈f2 then _ else _)=_;rw[aG hb]
  |succ k=>simp at Ha
 exact⟨v,w,_,.inl dJ,dx.FC aiz o.dst,hk⟩;cases hk;cases hk;cases hk
end Go.Dn
