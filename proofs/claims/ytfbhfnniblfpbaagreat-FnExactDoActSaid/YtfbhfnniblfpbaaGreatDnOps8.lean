import Derived.Test.YtfbhfnniblfpbaaGreatDnOps7
/- Part 8: copy, and fields of structs in slots. -/
namespace Go.Dn
open Go.RowKit
variable {P:Program} {C:Ctx} {st:AS} {a:Act} {w:World} {R:Type} {r:R}
variable {lo:Nat} {ys:eF}
theorem TG {zs:eF}(h:lo+zs.length<=ys.length):(Ek ys lo zs).length=ys.length:=by simp[Ek];omega
theorem acm {zs:eF}(h:lo+zs.length<=ys.length)(j:Nat):(Ek ys lo zs)[j]?=if lo<=j/\j<lo+zs.length then zs[j-lo]? else ys[j]?:=by
 unfold Ek;have hl:(ys.take lo).length=lo:=by simp;omega
 by_cases h1:j<lo;rw[mG,bw (by omega),cU,aG h1];rw[bq (by omega),hl];by_cases h2:j<lo+zs.length;rw[zip,bw (by omega)];rw[mG,bq (by omega),bJ];congr 1;omega
theorem acn:Ek ys lo []=ys:=by simp[Ek]
theorem aa8 {o:Oper}{s x:Operand}{t t':TypeId}(ho:o.op=.call {callee:=.builtin .copy,args:=#[s,x],argTypes:=#[t,t']}){v:Value}{w':World}(h:(Builtin.copy_ #[t,t'] o.type #[a.eval s,a.eval x]).run P w=.ok v w'):(execOp a.eval o).run P w=.ok (.value v) w':=by
 have e1:(#[s,x]:Array Operand).map a.eval=#[a.eval s,a.eval x]:=by simp
 simp only[execOp,ho,resolve,e1,Sem.run_bind,Sem.run_pure,Result.andThen_ok,invoke,builtin];show((Builtin.copy_ #[t,t'] o.type #[a.eval s,a.eval x]).run P w).andThen _=_;rw[h];rfl
theorem aaW {E:Env}(hE:jm P E.ty){o:Oper}{args:Array Operand}{ts:Array TypeId}(ho:o.op=.call {callee:=.builtin .copy,args,argTypes:=ts})(h:nt C st a w){K:AS->aw R}(hk:QY E o ts.toList args.toList st K=some r):mZ P C o a w K r:=by
 obtain⟨g,hg⟩:=h;unfold QY at hk;split at hk;rename_i t t' ep rt tg lo e xs s qT fb;obtain⟨x,y,rfl,hx,hy⟩:=PY fb;have et:ts=#[t,t']:=by apply ef;simpa using qT
 subst et;split at hk;rename_i tg' e' ys gX;split at hk;rename_i hee;subst hee;split at hk;rename_i hc;obtain⟨rfl,hT,hT',xQ,rfl⟩:=hc;simp only at hk;have vP:=hg.rd x;rw[hx]at vP;have hxc:=dQ vP;have Ro:=hg.rd y;rw[hy]at Ro;have hsv:=(dQ Ro).1;obtain⟨te,hu,⟨⟨inf,z,Ea,tu,_⟩,_⟩⟩:=Hj hE hT;have aqM:inf.size=1:=tu;obtain⟨v0,f2,dC,CQ,Aq,lD⟩:=hg.TP rt (by simp) gX;obtain⟨_,_,⟨o1,n1,k1,hv1,EA⟩,Vl⟩:=hxc;obtain⟨Gv,Vl⟩:=Vl xQ;have hm:(s.take xs.length).length=Nat.min s.length xs.length:=by simp[Nat.min_comm]
 have hzl:(dm (s.take xs.length)).length=Nat.min s.length xs.length:=by rw[dm,cr,hm]
 have DF:((ByteArray.mk s.toArray).extract 0 (Nat.min s.length xs.length)).data.map (λb=>Value.int .u8 b.toNat)=((dm (s.take xs.length)).map (Value.int .u8)).toArray:=by
  rw[extract_mk];simp only[fa,dm,List.map_map];have:s.take (Nat.min s.length xs.length)=s.take xs.length:=by show s.take (min s.length xs.length)=_;rcases Nat.le_total s.length xs.length with h|h;rw[iU h,bB (aU _),bB h];rw[Nat.min_eq_right h]
  rw[this];simp;rfl
 have hN:(Nat.min xs.length s.length:Nat)=Nat.min s.length xs.length:=Nat.min_comm _ _
 have dI:∀w',(match o1 with|some ad=>(storeCells ad ((dm (s.take xs.length)).map (Value.int .u8))).run P w=.ok () w'|none=>w'=w)->
  (execOp a.eval o).run P w=.ok (.value (.int .i64 (Nat.min xs.length s.length:Nat))) w':=by
  intro w' hw
  refine aa8 ho ?_
  rw[hv1,EA,hsv,hN]
  simp only[Builtin.copy_]
  simp only[underlying,Sem.run_bind,run_program,hu,Result.andThen_ok,Sem.run_pure,List.getElem?_toArray,cq,eG,Builtin.lenOf,sizeOf,typeInfo,Ea,Builtin.firstCells,yX,DF]
  cases o1 with
  |none=>simp only at hw;subst hw;simp[goInt]
  |some ad=>simp only at hw;simp[hw,goInt]
 have key:∀w',(match o1 with|some ad=>(storeCells ad ((dm (s.take xs.length)).map (Value.int .u8))).run P w=.ok () w'|none=>w'=w)->Fr (λb=>cX (g.dJ b)\/b∈f2) w w'->w'.heap.size=w.heap.size->
  eo g.hw w' (.sl (.int .u8)) [v0] (Ek ys lo.toNat (dm (s.take xs.length))) f2->mZ P C o a w K r:=by
  intro w' hw gM abm eR
  obtain⟨g',mY⟩:=lD w' g.hw (.sl (.own (some tg')) (.int .u8) (Ek ys lo.toNat (dm (s.take xs.length)))) f2 (λc' hle MT BU=>⟨by rw[MT,BU];exact eR,λt ht=>by have h1:=dC.2 t ht;exact⟨(hle.hdr t h1.1).1,by rw[(hle.hdr t h1.1).2];exact h1.2⟩⟩) CQ (λb hb=>⟨by rw[abm];exact(hg.fA b _ (Aq b hb)).1,.inl hb⟩) gM (λ_ _ _ _ _=>rfl)
  exact⟨_,_,_,.inl (dI w' hw),⟨g',mY.quiet o.dst (av:=.one (.int .i64 (min xs.length s.length:Nat))) (mN (kB _ _ _))⟩,hk⟩
 have Mg:v0=g.hdr tg':=(dC.2 tg' rfl).2;have eR:=dC.1;by_cases hxs:xs=[]
 subst hxs;have hz:dm (s.take ([]:eF).length)=[]:=by simp[dm]
 rw[hz]at key;refine key w ?_ (Fr.refl _ _) rfl (by rw[acn];exact eR);cases o1 with|none=>rfl|some ad=>simp[storeCells]
 rcases Vl with rfl|⟨n,b,o0,len,cap,k2,hlo,JW,hle,hvx⟩;exact absurd rfl hxs;have JW:g.hdr tg'=.slice (some ⟨b,o0,none⟩) len cap:=JW;rw[hv1]at hvx;simp only[Value.slice.injEq,CT.size,ny]at hvx;obtain⟨rfl,_,_⟩:=hvx;obtain⟨u,Rm,hO⟩:=eR;simp at Rm;subst Rm;rw[JW]at Mg;have hxl:xs.length≠0:=λh=>hxs (cz h);rcases hO with⟨⟨ad,rfl⟩,rfl,rfl⟩|⟨b2,o2,UJ,arr,T,fr,fps,rfl,hb,qS,hs,hc,hh,rfl,hl,hr⟩;simp only[Value.slice.injEq]at Mg;omega;have hb:w.heap[b2]?=some (.cells arr T fr):=hb;simp only[Value.slice.injEq,aZ,Addr.mk.injEq]at Mg;obtain⟨⟨rfl,rfl,_⟩,hyl,rfl⟩:=Mg;simp only[CT.size,ny]at hs hh hr;have hh:g.hw b2=o2+ys.length:=hh;have aqb:lo.toNat=n:=by omega
 have aqL:Nat.min s.length xs.length<=xs.length:=Nat.min_le_right _ _;have gF:n+(dm (s.take xs.length)).length<=ys.length:=by rw[hzl];omega
 have ahs:o2+n+((dm (s.take xs.length)).map (Value.int .u8)).length<=arr.size:=by rw[cr];omega
 have lE:=xI P b2 (o2+n) T fr ((dm (s.take xs.length)).map (Value.int .u8)) 0 w arr hb qS (by simpa using ahs) (by simp[Value.oneCell']);simp only[dL]at lE;have Ir:=mn hb;refine key _ lE ⟨rfl,rfl,rfl,by rw[lS];exact aU _,λc _ hc=>mW (λe=>hc (.inr (by simp[e])))⟩ (lS ..) ?_;rw[aqb];have hlen:=TG gF;refine⟨_,rfl,.inr ⟨b2,o2,UJ,_,T,fr,fps,by rw[hlen],yr Ir,λj hj=>qS j (by rwa[iC]at hj),by rw[iC];simpa[CT.size]using hs,by rw[hlen];exact hc,by rw[hlen];simpa[CT.size]using hh,rfl,by rw[hlen];exact hl,?_⟩⟩;intro i q f hq hf;simp only[CT.size,ny];have Ov:i<ys.length:=by have:=(aD.1 hq).1;omega
 have hold:=hr i ys[i] f (al Ov) hf;refine⟨?_,hold.2⟩;have AI:(eC arr (o2+n) ((dm (s.take xs.length)).map (Value.int .u8))).toList[o2+i]?=some (.int .u8 q):=by
  rw[zV ahs];rw[acm gF]at hq;simp only[cr];by_cases uu:n<=i/\i<n+(dm (s.take xs.length)).length;rw[aG uu]at hq;rw[zip,show o2+i-(o2+n)=i-n by omega,List.getElem?_map,hq];rfl;rw[aF uu]at hq;rw[mG];have h1:=hold.1;have h2:((arr.toList.drop (o2+i)).take 1)[0]?=some (.int .u8 ys[i]):=by rw[h1];rfl
  rw[jh]at h2;simp only[Nat.zero_lt_one,bL,dL]at h2;rw[al Ov]at hq;simp at hq;rw[h2,hq]
 have gV:o2+i<(eC arr (o2+n) ((dm (s.take xs.length)).map (Value.int .u8))).toList.length:=(aD.1 AI).1;rw[cl gV];have:=(aD.1 AI).2;simp[this];cases hk;cases hk;cases hk;cases hk
def ZL (P:Program)(l:ar ((Nat×Nat)×Nat)):Prop:=∀S f T,VL l S f=some T->∀fs fd,P.underlying S=some (.struct fs)->fs[f]?=some fd->fd.type=T
def ftB (P:Program)(x:(Nat×Nat)×Nat):Bool:=
 match P.underlying x.1.1 with
 |some (.struct fs)=>match fs[x.1.2]? with|some fd=>fd.type==x.2|none=>true
 |_=>true
theorem VM {P:Program}:∀{l:ar ((Nat×Nat)×Nat)},(l.all (ftB P))=true->ZL P l
 |[],_,S,f,T,h=>by simp[VL]at h
 |((u,k),U)::l,hl,S,f,T,h=>by
  simp only[bN,ah]at hl;simp only[VL]at h;cases hu:(u==S&&k==f)with
  |true=>rw[hu]at h;simp at h hu;obtain⟨rfl,rfl⟩:=hu;subst h;intro fs fd hS hf;have:=hl.1;simp only[ftB,hS,hf]at this;simpa using this
  |false=>rw[hu]at h;exact VM hl.2 S f T h
theorem afc {T:TypeId}{sh:Shape}(hT:adl P T sh)(cs:ic)(off:Nat)(gF:off+sh.ct.size<=cs.length): ∃v,(part T cs.toArray off).run P w=.ok v w/\Cut sh.agg v ((cs.drop off).take sh.ct.size):=by
 obtain⟨i,z,hi,tu,_⟩:=hT.elem.info;cases Nm:sh.agg with
 |true=>obtain⟨fs,hu,_⟩:=hT.agg Nm;refine⟨.agg (cs.toArray.extract off (off+sh.ct.size)),?_,?_⟩;simp only[part,isAgg,sizeOf,typeInfo,underlying,Sem.run_bind,run_program,hu,hi,Result.andThen_ok,Sem.run_pure,tu,bL,Sem.run_ite];simp only[Cut,bL];congr 1;apply ef;simp[List.take_drop]
 |false=>
  have h1:sh.ct.size=1:=by cases Mc:sh.ct with|pair a b=>have:=hT.pair a b Mc;rw[Nm]at this;cases this|_=>rfl
  rw[h1]at gF⊢;have gV:off<cs.length:=by omega
  refine⟨cs[off],?_,?_⟩;have hnu:∃d,P.underlying T=some d/\(match d with| .struct _| .array _ _=>True|_=>False)=False:=by cases Mc:sh.ct with|pair a b=>have:=hT.pair a b Mc;rw[Nm]at this;cases this|int k=>exact⟨_,hT.int k Mc Nm,rfl⟩|bool=>exact⟨_,hT.bool Mc Nm,rfl⟩|str=>exact⟨_,hT.str Mc Nm,rfl⟩|sl e=>obtain⟨te,hu,_⟩:=hT.sl e Mc Nm;exact⟨_,hu,rfl⟩
  obtain⟨d,hu,hd⟩:=hnu;simp only[part,isAgg,underlying,Sem.run_bind,run_program,hu,Result.andThen_ok,Sem.run_pure];cases d<;>simp at hd<;>simp[al gV];simp only[Cut,aY,cc];rw[cl gV];rfl
theorem UY {E:Env}(hE:jm P E.ty)(hF:ZL P E.fts){o:Oper}{S:TypeId}{t f:Nat}(ho:o.op=.field S (.tmp t) f)(h:nt C st a w){K:AS->aw R}(hk:HD E o S t f st K=some r):mZ P C o a w K r:=by
 obtain⟨g,h⟩:=h;unfold HD at hk;split at hk;rename_i ct jV cs T hS hg hT;split at hk;rename_i fo n sh Qn hsh;split at hk;rename_i hc;obtain⟨rfl,hcl,gF⟩:=hc;obtain⟨fs,hu,Ig⟩:=(hE S _ hS).agg rfl;rw[dA]at Qn;obtain⟨fd,hfd,ai7,hn,i,hi,tu⟩:=Ig f fo _ Qn;have hty:=hF S f T hT fs fd hu hfd;have htl:t<st.slots.length:=by
  rcases bQ t st.slots.length with gV|BD;exact gV;have:st.get t=.bot:=by simp[AS.get,dA,bH BD]
  rw[this]at hg;cases hg
 obtain⟨fp,hr,ES,hl⟩:=h.slot t;rw[hg]at hr;obtain⟨vs,ee,hr⟩:=hr;have hlen:=hr.length;obtain⟨v,Vl,aiT⟩:=afc (P:=P) (w:=w) (hE T sh hsh) vs fo (by omega);have dI:(execOp a.eval o).run P w=.ok (.value v) w:=by
  have he:a.eval (.tmp t)=.agg vs.toArray:=by simp only[Cut,bL]at ee;exact ee
  simp only[execOp,ho,he,Instr.field,underlying,Sem.run_bind,run_program,hu,Result.andThen_ok,Sem.run_pure,hfd,asAgg,ai7,hty,Vl]
 obtain⟨f1,f2,f3,rfl,r1,r2,r3⟩:=hr.mid fo sh.ct.size;have S6:=ES;rw[aN]at S6;have n1:=aB.1 S6;have n2:=aB.1 n1.2.1;let Qe:AV:=.val true (da cs fo (aR st.ep ((cs.drop fo).take sh.ct.size)));let st':AS:=st.put (some t) Qe;let g':Gh:={g with dJ:=λb=>if b∈f2 then some (.hand 0) else g.dJ b}
 have hle:(cy C g st w).Le (cy C g' st' w):=by have:= @Tq C g st w (some t) Qe;exact⟨this.A,this.hdr,this.UK,this.ep,this.Ku,this.acw⟩
 have Xc:∀b y,g.dJ b=some y->b∉f2->g'.dJ b=some y:=by intro b y hb hm;show(if b∈f2 then _ else _)=_;rw[aF hm];exact hb
 have MU:∀b y,y≠ .slot t->g.dJ b=some y->b∉f2:=λb y hy hb hm=>hy (by have:=hl b (by simp[hm]);rw[hb]at this;simpa using this);have aqo:bn (cy C g' st' w) vs (da cs fo (aR st.ep ((cs.drop fo).take sh.ct.size))) (f1++f3):=by
  have hbl:(aR st.ep ((cs.drop fo).take sh.ct.size)).length=sh.ct.size:=by simp[aR];omega
  have e:vs=vs.take fo++(vs.drop fo).take sh.ct.size++vs.drop (fo+sh.ct.size):=by rw[aN,<-dY,cp,cp]
  have:=bn.append (bn.append (r1.mono hle (λb _=>⟨rfl,rfl⟩)) ((r2.aR).mono hle (by simp))) (r3.mono hle (λb _=>⟨rfl,rfl⟩));rw[<-e,bp]at this;rw[da,hbl];exact this
 have aid:dw C g' st' a w [(v,.val sh.agg ((cs.drop fo).take sh.ct.size))]:=by
  refine h.step (λy=>y≠ .slot t) hle h.defers (by show _=(st.put (some t) Qe).slots.length;rw[fK,aH];exact h.size) (by show(st.put (some t) Qe).boxes.length=(st.put (some t) Qe).slots.length;rw[kO,fK,aH];exact h.bsize) h.frame ?_ (λb y hy hb=>⟨Xc b y hb (MU b y hy hb),rfl,rfl⟩) ?_ ?_ ?_ (.inl ⟨by simp,Lp⟩);intro b y hy;have Rn:(if b∈f2 then some (jc.hand 0) else g.dJ b)=some y:=hy;by_cases hm:b∈f2;exact h.fA b _ (hl b (by simp[hm]));rw[aF hm]at Rn;exact h.fA b y Rn;intro j bv hj;have hj':(st.slots.set t Qe)[j]?=some bv:=by rw[<-fK];exact hj
  by_cases hjt:j=t;subst hjt;rw[bk]at hj';simp only[bL,htl]at hj';simp at hj';subst hj';refine .inr ⟨f1++f3,⟨vs,ee,aqo⟩,?_,?_⟩;refine aB.2 ⟨n1.1,n2.2.1,?_⟩;rintro b hb c hc rfl;exact n1.2.2 b hb b (ba _ hc) rfl;intro b hb;refine Xc b _ (hl b (by rcases az.1 hb with k|k<;>simp[k])) (λhm=>?_);rcases az.1 hb with k|k;exact n1.2.2 b k b (bg _ hm) rfl;exact n2.2.2 b hm b k rfl;rw[aO (cG hjt)]at hj';exact .inl ⟨by simpa using hjt,hj',rfl⟩;intro s na hb;have gH:st.boxes[s]?=some (some na):=by rw[<-kO (d:=some t) (v:=Qe)];exact hb
  exact .inl ⟨by simp,gH,rfl⟩;intro k u bv GV;cases k with
  |zero=>simp only[cq,aZ,Prod.mk.injEq]at GV;obtain⟨rfl,rfl⟩:=GV;refine .inr ⟨f2,⟨_,aiT,r2.mono hle (λb _=>⟨rfl,rfl⟩)⟩,n2.1,λb hb=>?_⟩;show(if b∈f2 then _ else _)=_;rw[aG hb]
  |succ k=>simp at GV
 exact⟨v,w,_,.inl dI,dw.Fs aid o.dst,hk⟩;cases hk;cases hk;cases hk
end Go.Dn
