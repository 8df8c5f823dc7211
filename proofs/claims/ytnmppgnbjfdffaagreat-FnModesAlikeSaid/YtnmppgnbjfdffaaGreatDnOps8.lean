import Derived.Test.YtnmppgnbjfdffaaGreatDnOps7
/- Part 8: copy, and fields of structs in slots. -/
namespace Go.Dn
open Go.RowKit
variable {P:Program} {C:Ctx} {st:AS} {a:Act} {w:World} {R:Type} {r:R}
variable {lo:Nat} {ys:dB}
theorem Sb {zs:dB}(h:lo+zs.length<=ys.length):(Cm ys lo zs).length=ys.length:=by simp[Cm];omega
theorem abY {zs:dB}(h:lo+zs.length<=ys.length)(j:Nat):(Cm ys lo zs)[j]?=if lo<=j/\j<lo+zs.length then zs[j-lo]? else ys[j]?:=by
 unfold Cm;have hl:(ys.take lo).length=lo:=by simp;omega
 by_cases h1:j<lo;rw[kl,bp (by omega),dW,aF h1];rw[bz (by omega),hl];by_cases h2:j<lo+zs.length;rw[zip,bp (by omega)];rw[kl,bz (by omega),bK];congr 1;omega
theorem abZ:Cm ys lo []=ys:=by simp[Cm]
theorem aaB {o:Oper}{s x:Operand}{t t':TypeId}(ho:o.op=.call {callee:=.builtin .copy,args:=#[s,x],argTypes:=#[t,t']}){v:Value}{w':World}(h:(Builtin.copy_ #[t,t'] o.type #[a.eval s,a.eval x]).run P w=.ok v w'):(execOp a.eval o).run P w=.ok (.value v) w':=by
 have e1:(#[s,x]:Array Operand).map a.eval=#[a.eval s,a.eval x]:=by simp
 simp only[execOp,ho,resolve,e1,Sem.run_bind,Sem.run_pure,Result.andThen_ok,invoke,builtin];show((Builtin.copy_ #[t,t'] o.type #[a.eval s,a.eval x]).run P w).andThen _=_;rw[h];rfl
theorem aas {E:Env}(hE:jX P E.ty){o:Oper}{args:Array Operand}{ts:Array TypeId}(ho:o.op=.call {callee:=.builtin .copy,args,argTypes:=ts})(h:oE C st a w){K:AS->aC R}(hk:Pa E o ts.toList args.toList st K=some r):nm P C o a w K r:=by
 obtain⟨g,hg⟩:=h;unfold Pa at hk;split at hk;rename_i t t' ep rt tg lo e xs s tz gP;obtain⟨x,y,rfl,hx,hy⟩:=N0 gP;have et:ts=#[t,t']:=by apply fN;simpa using tz
 subst et;split at hk;rename_i tg' e' ys iP;split at hk;rename_i hee;subst hee;split at hk;rename_i hc;obtain⟨rfl,hT,hT',yi,rfl⟩:=hc;simp only at hk;have uM:=hg.rd x;rw[hx]at uM;have hxc:=fi uM;have PG:=hg.rd y;rw[hy]at PG;have hsv:=(fi PG).1;obtain⟨te,hu,⟨⟨inf,z,Ca,uL,_⟩,_⟩⟩:=ED hE hT;have aqq:inf.size=1:=uL;obtain⟨v0,f2,fJ,DJ,zI,qJ⟩:=hg.Si rt (by simp) iP;obtain⟨_,_,⟨o1,n1,k1,hv1,IX⟩,T3⟩:=hxc;obtain⟨KQ,T3⟩:=T3 yi;have hm:(s.take xs.length).length=Nat.min s.length xs.length:=by simp[Nat.min_comm]
 have hzl:(dL (s.take xs.length)).length=Nat.min s.length xs.length:=by rw[dL,cI,hm]
 have BD:((ByteArray.mk s.toArray).extract 0 (Nat.min s.length xs.length)).data.map (λb=>Value.int .u8 b.toNat)=((dL (s.take xs.length)).map (Value.int .u8)).toArray:=by
  rw[extract_mk];simp only[eP,dL,List.map_map];have:s.take (Nat.min s.length xs.length)=s.take xs.length:=by show s.take (min s.length xs.length)=_;rcases Nat.le_total s.length xs.length with h|h;rw[iX h,bU (aV _),bU h];rw[Nat.min_eq_right h]
  rw[this];simp;rfl
 have hN:(Nat.min xs.length s.length:Nat)=Nat.min s.length xs.length:=Nat.min_comm _ _
 have fb:∀w',(match o1 with|some ad=>(storeCells ad ((dL (s.take xs.length)).map (Value.int .u8))).run P w=.ok () w'|none=>w'=w)->
  (execOp a.eval o).run P w=.ok (.value (.int .i64 (Nat.min xs.length s.length:Nat))) w':=by
  intro w' hw
  refine aaB ho ?_
  rw[hv1,IX,hsv,hN]
  simp only[Builtin.copy_]
  simp only[underlying,Sem.run_bind,run_program,hu,Result.andThen_ok,Sem.run_pure,List.getElem?_toArray,cM,fG,Builtin.lenOf,sizeOf,typeInfo,Ca,Builtin.firstCells,xu,BD]
  cases o1 with
  |none=>simp only at hw;subst hw;simp[goInt]
  |some ad=>simp only at hw;simp[hw,goInt]
 have key:∀w',(match o1 with|some ad=>(storeCells ad ((dL (s.take xs.length)).map (Value.int .u8))).run P w=.ok () w'|none=>w'=w)->Fr (λb=>eE (g.fe b)\/b∈f2) w w'->w'.heap.size=w.heap.size->
  gi g.hw w' (.sl (.int .u8)) [v0] (Cm ys lo.toNat (dL (s.take xs.length))) f2->nm P C o a w K r:=by
  intro w' hw jQ aaV iL
  obtain⟨g',oB⟩:=qJ w' g.hw (.sl (.own (some tg')) (.int .u8) (Cm ys lo.toNat (dL (s.take xs.length)))) f2 (λc' hle SP FC=>⟨by rw[SP,FC];exact iL,λt ht=>by have h1:=fJ.2 t ht;exact⟨(hle.hdr t h1.1).1,by rw[(hle.hdr t h1.1).2];exact h1.2⟩⟩) DJ (λb hb=>⟨by rw[aaV];exact(hg.gY b _ (zI b hb)).1,.inl hb⟩) jQ (λ_ _ _ _ _=>rfl)
  exact⟨_,_,_,.inl (fb w' hw),⟨g',oB.quiet o.dst (av:=.one (.int .i64 (min xs.length s.length:Nat))) (mZ (kY _ _ _))⟩,hk⟩
 have MD:v0=g.hdr tg':=(fJ.2 tg' rfl).2;have iL:=fJ.1;by_cases hxs:xs=[]
 subst hxs;have hz:dL (s.take ([]:dB).length)=[]:=by simp[dL]
 rw[hz]at key;refine key w ?_ (Fr.refl _ _) rfl (by rw[abZ];exact iL);cases o1 with|none=>rfl|some ad=>simp[storeCells]
 rcases T3 with rfl|⟨n,b,o0,len,cap,k2,hlo,Oo,hle,hvx⟩;exact absurd rfl hxs;have Oo:g.hdr tg'=.slice (some ⟨b,o0,none⟩) len cap:=Oo;rw[hv1]at hvx;simp only[Value.slice.injEq,CT.size,nL]at hvx;obtain⟨rfl,_,_⟩:=hvx;obtain⟨u,RP,hO⟩:=iL;simp at RP;subst RP;rw[Oo]at MD;have hxl:xs.length≠0:=λh=>hxs (bZ h);rcases hO with⟨⟨ad,rfl⟩,rfl,rfl⟩|⟨b2,o2,Wp,arr,T,fr,fps,rfl,hb,sE,hs,hc,hh,rfl,hl,hr⟩;simp only[Value.slice.injEq]at MD;omega;have hb:w.heap[b2]?=some (.cells arr T fr):=hb;simp only[Value.slice.injEq,bu,Addr.mk.injEq]at MD;obtain⟨⟨rfl,rfl,_⟩,hyl,rfl⟩:=MD;simp only[CT.size,nL]at hs hh hr;have hh:g.hw b2=o2+ys.length:=hh;have apy:lo.toNat=n:=by omega
 have aqo:Nat.min s.length xs.length<=xs.length:=Nat.min_le_right _ _;have iB:n+(dL (s.take xs.length)).length<=ys.length:=by rw[hzl];omega
 have aik:o2+n+((dL (s.take xs.length)).map (Value.int .u8)).length<=arr.size:=by rw[cI];omega
 have nt:=we P b2 (o2+n) T fr ((dL (s.take xs.length)).map (Value.int .u8)) 0 w arr hb sE (by simpa using aik) (by simp[Value.oneCell']);simp only[dX]at nt;have FL:=mH hb;refine key _ nt ⟨rfl,rfl,rfl,by rw[mm];exact aV _,λc _ hc=>nh (λe=>hc (.inr (by simp[e])))⟩ (mm ..) ?_;rw[apy];have hlen:=Sb iB;refine⟨_,rfl,.inr ⟨b2,o2,Wp,_,T,fr,fps,by rw[hlen],wY FL,λj hj=>sE j (by rwa[jt]at hj),by rw[jt];simpa[CT.size]using hs,by rw[hlen];exact hc,by rw[hlen];simpa[CT.size]using hh,rfl,by rw[hlen];exact hl,?_⟩⟩;intro i q f hq hf;simp only[CT.size,nL];have Oq:i<ys.length:=by have:=(aB.1 hq).1;omega
 have hold:=hr i ys[i] f (aw Oq) hf;refine⟨?_,hold.2⟩;have B5:(fy arr (o2+n) ((dL (s.take xs.length)).map (Value.int .u8))).toList[o2+i]?=some (.int .u8 q):=by
  rw[xW aik];rw[abY iB]at hq;simp only[cI];by_cases uN:n<=i/\i<n+(dL (s.take xs.length)).length;rw[aF uN]at hq;rw[zip,show o2+i-(o2+n)=i-n by omega,List.getElem?_map,hq];rfl;rw[aH uN]at hq;rw[kl];have h1:=hold.1;have h2:((arr.toList.drop (o2+i)).take 1)[0]?=some (.int .u8 ys[i]):=by rw[h1];rfl
  rw[jU]at h2;simp only[Nat.zero_lt_one,cc,dX]at h2;rw[aw Oq]at hq;simp at hq;rw[h2,hq]
 have ir:o2+i<(fy arr (o2+n) ((dL (s.take xs.length)).map (Value.int .u8))).toList.length:=(aB.1 B5).1;rw[ca ir];have:=(aB.1 B5).2;simp[this];cases hk;cases hk;cases hk;cases hk
def YN (P:Program)(l:ay ((Nat×Nat)×Nat)):Prop:=∀S f T,UD l S f=some T->∀fs fd,P.underlying S=some (.struct fs)->fs[f]?=some fd->fd.type=T
def ftB (P:Program)(x:(Nat×Nat)×Nat):Bool:=
 match P.underlying x.1.1 with
 |some (.struct fs)=>match fs[x.1.2]? with|some fd=>fd.type==x.2|none=>true
 |_=>true
theorem UE {P:Program}:∀{l:ay ((Nat×Nat)×Nat)},(l.all (ftB P))=true->YN P l
 |[],_,S,f,T,h=>by simp[UD]at h
 |((u,k),U)::l,hl,S,f,T,h=>by
  simp only[cv,ab]at hl;simp only[UD]at h;cases hu:(u==S&&k==f)with
  |true=>rw[hu]at h;simp at h hu;obtain⟨rfl,rfl⟩:=hu;subst h;intro fs fd hS hf;have:=hl.1;simp only[ftB,hS,hf]at this;simpa using this
  |false=>rw[hu]at h;exact UE hl.2 S f T h
theorem afe {T:TypeId}{sh:Shape}(hT:ac3 P T sh)(cs:jz)(off:Nat)(iB:off+sh.ct.size<=cs.length): ∃v,(part T cs.toArray off).run P w=.ok v w/\Cut sh.agg v ((cs.drop off).take sh.ct.size):=by
 obtain⟨i,z,hi,uL,_⟩:=hT.elem.info;cases Lg:sh.agg with
 |true=>obtain⟨fs,hu,_⟩:=hT.agg Lg;refine⟨.agg (cs.toArray.extract off (off+sh.ct.size)),?_,?_⟩;simp only[part,isAgg,sizeOf,typeInfo,underlying,Sem.run_bind,run_program,hu,hi,Result.andThen_ok,Sem.run_pure,uL,cc,Sem.run_ite];simp only[Cut,cc];congr 1;apply fN;simp[List.take_drop]
 |false=>
  have h1:sh.ct.size=1:=by cases J6:sh.ct with|pair a b=>have:=hT.pair a b J6;rw[Lg]at this;cases this|_=>rfl
  rw[h1]at iB⊢;have ir:off<cs.length:=by omega
  refine⟨cs[off],?_,?_⟩;have hnu:∃d,P.underlying T=some d/\(match d with| .struct _| .array _ _=>True|_=>False)=False:=by cases J6:sh.ct with|pair a b=>have:=hT.pair a b J6;rw[Lg]at this;cases this|int k=>exact⟨_,hT.int k J6 Lg,rfl⟩|bool=>exact⟨_,hT.bool J6 Lg,rfl⟩|str=>exact⟨_,hT.str J6 Lg,rfl⟩|sl e=>obtain⟨te,hu,_⟩:=hT.sl e J6 Lg;exact⟨_,hu,rfl⟩
  obtain⟨d,hu,hd⟩:=hnu;simp only[part,isAgg,underlying,Sem.run_bind,run_program,hu,Result.andThen_ok,Sem.run_pure];cases d<;>simp at hd<;>simp[aw ir];simp only[Cut,bh,cn];rw[ca ir];rfl
theorem Ts {E:Env}(hE:jX P E.ty)(hF:YN P E.fts){o:Oper}{S:TypeId}{t f:Nat}(ho:o.op=.field S (.tmp t) f)(h:oE C st a w){K:AS->aC R}(hk:E3 E o S t f st K=some r):nm P C o a w K r:=by
 obtain⟨g,h⟩:=h;unfold E3 at hk;split at hk;rename_i ct kE cs T hS hg hT;split at hk;rename_i fo n sh Ov hsh;split at hk;rename_i hc;obtain⟨rfl,hcl,iB⟩:=hc;obtain⟨fs,hu,GP⟩:=(hE S _ hS).agg rfl;rw[eH]at Ov;obtain⟨fd,hfd,alk,hn,i,hi,uL⟩:=GP f fo _ Ov;have hty:=hF S f T hT fs fd hu hfd;have htl:t<st.slots.length:=by
  rcases bW t st.slots.length with ir|zH;exact ir;have:st.get t=.bot:=by simp[AS.get,eH,bM zH]
  rw[this]at hg;cases hg
 obtain⟨fp,hr,Fc,hl⟩:=h.slot t;rw[hg]at hr;obtain⟨vs,gm,hr⟩:=hr;have hlen:=hr.length;obtain⟨v,T3,ak4⟩:=afe (P:=P) (w:=w) (hE T sh hsh) vs fo (by omega);have fb:(execOp a.eval o).run P w=.ok (.value v) w:=by
  have he:a.eval (.tmp t)=.agg vs.toArray:=by simp only[Cut,cc]at gm;exact gm
  simp only[execOp,ho,he,Instr.field,underlying,Sem.run_bind,run_program,hu,Result.andThen_ok,Sem.run_pure,hfd,asAgg,alk,hty,T3]
 obtain⟨f1,f2,f3,rfl,r1,r2,r3⟩:=hr.mid fo sh.ct.size;have RM:=Fc;rw[aD]at RM;have n1:=aM.1 RM;have n2:=aM.1 n1.2.1;let Og:AV:=.val true (eX cs fo (bf st.ep ((cs.drop fo).take sh.ct.size)));let bX:AS:=st.put (some t) Og;let g':Gh:={g with fe:=λb=>if b∈f2 then some (.hand 0) else g.fe b}
 have hle:(dk C g st w).Le (dk C g' bX w):=by have:= @R1 C g st w (some t) Og;exact⟨this.A,this.hdr,this.Td,this.ep,this.H2,this.acb⟩
 have VX:∀b y,g.fe b=some y->b∉f2->g'.fe b=some y:=by intro b y hb hm;show(if b∈f2 then _ else _)=_;rw[aH hm];exact hb
 have KR:∀b y,y≠ .slot t->g.fe b=some y->b∉f2:=λb y hy hb hm=>hy (by have:=hl b (by simp[hm]);rw[hb]at this;simpa using this);have apL:bR (dk C g' bX w) vs (eX cs fo (bf st.ep ((cs.drop fo).take sh.ct.size))) (f1++f3):=by
  have hbl:(bf st.ep ((cs.drop fo).take sh.ct.size)).length=sh.ct.size:=by simp[bf];omega
  have e:vs=vs.take fo++(vs.drop fo).take sh.ct.size++vs.drop (fo+sh.ct.size):=by rw[aD,<-eO,cz,cz]
  have:=bR.append (bR.append (r1.mono hle (λb _=>⟨rfl,rfl⟩)) ((r2.bf).mono hle (by simp))) (r3.mono hle (λb _=>⟨rfl,rfl⟩));rw[<-e,bA]at this;rw[eX,hbl];exact this
 have ajx:eK C g' bX a w [(v,.val sh.agg ((cs.drop fo).take sh.ct.size))]:=by
  refine h.step (λy=>y≠ .slot t) hle h.defers (by show _=(st.put (some t) Og).slots.length;rw[gE,aK];exact h.size) (by show(st.put (some t) Og).boxes.length=(st.put (some t) Og).slots.length;rw[lr,gE,aK];exact h.bsize) h.frame ?_ (λb y hy hb=>⟨VX b y hb (KR b y hy hb),rfl,rfl⟩) ?_ ?_ ?_ (.inl ⟨by simp,I6⟩);intro b y hy;have SR:(if b∈f2 then some (kI.hand 0) else g.fe b)=some y:=hy;by_cases hm:b∈f2;exact h.gY b _ (hl b (by simp[hm]));rw[aH hm]at SR;exact h.gY b y SR;intro j bv hj;have hj':(st.slots.set t Og)[j]?=some bv:=by rw[<-gE];exact hj
  by_cases hjt:j=t;subst hjt;rw[bH]at hj';simp only[cc,htl]at hj';simp at hj';subst hj';refine .inr ⟨f1++f3,⟨vs,gm,apL⟩,?_,?_⟩;refine aM.2 ⟨n1.1,n2.2.1,?_⟩;rintro b hb c hc rfl;exact n1.2.2 b hb b (bj _ hc) rfl;intro b hb;refine VX b _ (hl b (by rcases ax.1 hb with k|k<;>simp[k])) (λhm=>?_);rcases ax.1 hb with k|k;exact n1.2.2 b k b (aR _ hm) rfl;exact n2.2.2 b hm b k rfl;rw[aJ (cr hjt)]at hj';exact .inl ⟨by simpa using hjt,hj',rfl⟩;intro s qO hb;have im:st.boxes[s]?=some (some qO):=by rw[<-lr (d:=some t) (v:=Og)];exact hb
  exact .inl ⟨by simp,im,rfl⟩;intro k u bv Ee;cases k with
  |zero=>simp only[cM,bu,Prod.mk.injEq]at Ee;obtain⟨rfl,rfl⟩:=Ee;refine .inr ⟨f2,⟨_,ak4,r2.mono hle (λb _=>⟨rfl,rfl⟩)⟩,n2.1,λb hb=>?_⟩;show(if b∈f2 then _ else _)=_;rw[aF hb]
  |succ k=>simp at Ee
 exact⟨v,w,_,.inl fb,eK.C1 ajx o.dst,hk⟩;cases hk;cases hk;cases hk
end Go.Dn
