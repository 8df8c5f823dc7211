import Derived.Test.YtfbhfnniblfpbaaGreatDnOps7
/- Part 8: copy, and fields of structs in slots. -/
namespace Go.Dn
open Go.RowKit
variable {P:Program} {C:Ctx} {st:AS} {a:Act} {w:World} {R:Type} {r:R}
variable {lo:Nat} {ys:dR}
theorem Td {zs:dR}(h:lo+zs.length<=ys.length):(DG ys lo zs).length=ys.length:=by simp[DG];omega
theorem abH {zs:dR}(h:lo+zs.length<=ys.length)(j:Nat):(DG ys lo zs)[j]?=if lo<=j/\j<lo+zs.length then zs[j-lo]? else ys[j]?:=by
 unfold DG;have hl:(ys.take lo).length=lo:=by simp;omega
 by_cases h1:j<lo;rw[mG,bA (by omega),cP,aF h1];rw[bq (by omega),hl];by_cases h2:j<lo+zs.length;rw[zip,bA (by omega)];rw[mG,bq (by omega),bH];congr 1;omega
theorem abI:DG ys lo []=ys:=by simp[DG]
theorem aaB {o:Oper}{s x:Operand}{t t':TypeId}(ho:o.op=.call {callee:=.builtin .copy,args:=#[s,x],argTypes:=#[t,t']}){v:Value}{w':World}(h:(Builtin.copy_ #[t,t'] o.type #[a.eval s,a.eval x]).run P w=.ok v w'):(execOp a.eval o).run P w=.ok (.value v) w':=by
 have e1:(#[s,x]:Array Operand).map a.eval=#[a.eval s,a.eval x]:=by simp
 simp only[execOp,ho,resolve,e1,Sem.run_bind,Sem.run_pure,Result.andThen_ok,invoke,builtin];show((Builtin.copy_ #[t,t'] o.type #[a.eval s,a.eval x]).run P w).andThen _=_;rw[h];rfl
theorem aaq {E:Env}(hE:jf P E.ty){o:Oper}{args:Array Operand}{ts:Array TypeId}(ho:o.op=.call {callee:=.builtin .copy,args,argTypes:=ts})(h:nb C st a w){K:AS->aw R}(hk:QD E o ts.toList args.toList st K=some r):mJ P C o a w K r:=by
 obtain⟨g,hg⟩:=h;unfold QD at hk;split at hk;rename_i t t' ep rt tg lo e xs s qH eP;obtain⟨x,y,rfl,hx,hy⟩:=PC eP;have et:ts=#[t,t']:=by apply dQ;simpa using qH
 subst et;split at hk;rename_i tg' e' ys gE;split at hk;rename_i hee;subst hee;split at hk;rename_i hc;obtain⟨rfl,hT,hT',xl,rfl⟩:=hc;simp only at hk;have vp:=hg.rd x;rw[hx]at vp;have hxc:=dE vp;have Q2:=hg.rd y;rw[hy]at Q2;have hsv:=(dE Q2).1;obtain⟨te,hu,⟨⟨inf,z,Dv,sR,_⟩,_⟩⟩:=GK hE hT;have apu:inf.size=1:=sR;obtain⟨v0,f2,dx,B8,zH,la⟩:=hg.Tn rt (by simp) gE;obtain⟨_,_,⟨o1,n1,k1,hv1,DW⟩,UP⟩:=hxc;obtain⟨FO,UP⟩:=UP xl;have hm:(s.take xs.length).length=Nat.min s.length xs.length:=by simp[Nat.min_comm]
 have hzl:(dc (s.take xs.length)).length=Nat.min s.length xs.length:=by rw[dc,cj,hm]
 have C0:((ByteArray.mk s.toArray).extract 0 (Nat.min s.length xs.length)).data.map (λb=>Value.int .u8 b.toNat)=((dc (s.take xs.length)).map (Value.int .u8)).toArray:=by
  rw[extract_mk];simp only[ef,dc,List.map_map];have:s.take (Nat.min s.length xs.length)=s.take xs.length:=by show s.take (min s.length xs.length)=_;rcases Nat.le_total s.length xs.length with h|h;rw[iI h,bB (aX _),bB h];rw[Nat.min_eq_right h]
  rw[this];simp;rfl
 have hN:(Nat.min xs.length s.length:Nat)=Nat.min s.length xs.length:=Nat.min_comm _ _
 have dA:∀w',(match o1 with|some ad=>(storeCells ad ((dc (s.take xs.length)).map (Value.int .u8))).run P w=.ok () w'|none=>w'=w)->
  (execOp a.eval o).run P w=.ok (.value (.int .i64 (Nat.min xs.length s.length:Nat))) w':=by
  intro w' hw
  refine aaB ho ?_
  rw[hv1,DW,hsv,hN]
  simp only[Builtin.copy_]
  simp only[underlying,Sem.run_bind,run_program,hu,Result.andThen_ok,Sem.run_pure,List.getElem?_toArray,ch,eh,Builtin.lenOf,sizeOf,typeInfo,Dv,Builtin.firstCells,yn,C0]
  cases o1 with
  |none=>simp only at hw;subst hw;simp[goInt]
  |some ad=>simp only at hw;simp[hw,goInt]
 have key:∀w',(match o1 with|some ad=>(storeCells ad ((dc (s.take xs.length)).map (Value.int .u8))).run P w=.ok () w'|none=>w'=w)->Fr (λb=>cQ (g.dB b)\/b∈f2) w w'->w'.heap.size=w.heap.size->
  dW g.hw w' (.sl (.int .u8)) [v0] (DG ys lo.toNat (dc (s.take xs.length))) f2->mJ P C o a w K r:=by
  intro w' hw gw aaO eE
  obtain⟨g',mI⟩:=la w' g.hw (.sl (.own (some tg')) (.int .u8) (DG ys lo.toNat (dc (s.take xs.length)))) f2 (λc' hle MD Bi=>⟨by rw[MD,Bi];exact eE,λt ht=>by have h1:=dx.2 t ht;exact⟨(hle.hdr t h1.1).1,by rw[(hle.hdr t h1.1).2];exact h1.2⟩⟩) B8 (λb hb=>⟨by rw[aaO];exact(hg.fa b _ (zH b hb)).1,.inl hb⟩) gw (λ_ _ _ _ _=>rfl)
  exact⟨_,_,_,.inl (dA w' hw),⟨g',mI.quiet o.dst (av:=.one (.int .i64 (min xs.length s.length:Nat))) (mu (kj _ _ _))⟩,hk⟩
 have LU:v0=g.hdr tg':=(dx.2 tg' rfl).2;have eE:=dx.1;by_cases hxs:xs=[]
 subst hxs;have hz:dc (s.take ([]:dR).length)=[]:=by simp[dc]
 rw[hz]at key;refine key w ?_ (Fr.refl _ _) rfl (by rw[abI];exact eE);cases o1 with|none=>rfl|some ad=>simp[storeCells]
 rcases UP with rfl|⟨n,b,o0,len,cap,k2,hlo,Jo,hle,hvx⟩;exact absurd rfl hxs;have Jo:g.hdr tg'=.slice (some ⟨b,o0,none⟩) len cap:=Jo;rw[hv1]at hvx;simp only[Value.slice.injEq,CT.size,nh]at hvx;obtain⟨rfl,_,_⟩:=hvx;obtain⟨u,Q0,hO⟩:=eE;simp at Q0;subst Q0;rw[Jo]at LU;have hxl:xs.length≠0:=λh=>hxs (cr h);rcases hO with⟨⟨ad,rfl⟩,rfl,rfl⟩|⟨b2,o2,Ug,arr,T,fr,fps,rfl,hb,qG,hs,hc,hh,rfl,hl,hr⟩;simp only[Value.slice.injEq]at LU;omega;have hb:w.heap[b2]?=some (.cells arr T fr):=hb;simp only[Value.slice.injEq,aZ,Addr.mk.injEq]at LU;obtain⟨⟨rfl,rfl,_⟩,hyl,rfl⟩:=LU;simp only[CT.size,nh]at hs hh hr;have hh:g.hw b2=o2+ys.length:=hh;have aoS:lo.toNat=n:=by omega
 have apt:Nat.min s.length xs.length<=xs.length:=Nat.min_le_right _ _;have gk:n+(dc (s.take xs.length)).length<=ys.length:=by rw[hzl];omega
 have agw:o2+n+((dc (s.take xs.length)).map (Value.int .u8)).length<=arr.size:=by rw[cj];omega
 have lf:=wZ P b2 (o2+n) T fr ((dc (s.take xs.length)).map (Value.int .u8)) 0 w arr hb qG (by simpa using agw) (by simp[Value.oneCell']);simp only[dC]at lf;have HP:=lQ hb;refine key _ lf ⟨rfl,rfl,rfl,by rw[ly];exact aX _,λc _ hc=>mF (λe=>hc (.inr (by simp[e])))⟩ (ly ..) ?_;rw[aoS];have hlen:=Td gk;refine⟨_,rfl,.inr ⟨b2,o2,Ug,_,T,fr,fps,by rw[hlen],xK HP,λj hj=>qG j (by rwa[ik]at hj),by rw[ik];simpa[CT.size]using hs,by rw[hlen];exact hc,by rw[hlen];simpa[CT.size]using hh,rfl,by rw[hlen];exact hl,?_⟩⟩;intro i q f hq hf;simp only[CT.size,nh];have N9:i<ys.length:=by have:=(aD.1 hq).1;omega
 have hold:=hr i ys[i] f (al N9) hf;refine⟨?_,hold.2⟩;have zW:(ec arr (o2+n) ((dc (s.take xs.length)).map (Value.int .u8))).toList[o2+i]?=some (.int .u8 q):=by
  rw[zb agw];rw[abH gk]at hq;simp only[cj];by_cases tU:n<=i/\i<n+(dc (s.take xs.length)).length;rw[aF tU]at hq;rw[zip,show o2+i-(o2+n)=i-n by omega,List.getElem?_map,hq];rfl;rw[aE tU]at hq;rw[mG];have h1:=hold.1;have h2:((arr.toList.drop (o2+i)).take 1)[0]?=some (.int .u8 ys[i]):=by rw[h1];rfl
  rw[ja]at h2;simp only[Nat.zero_lt_one,bN,dC]at h2;rw[al N9]at hq;simp at hq;rw[h2,hq]
 have gq:o2+i<(ec arr (o2+n) ((dc (s.take xs.length)).map (Value.int .u8))).toList.length:=(aD.1 zW).1;rw[bQ gq];have:=(aD.1 zW).2;simp[this];cases hk;cases hk;cases hk;cases hk
def Za (P:Program)(l:au ((Nat×Nat)×Nat)):Prop:=∀S f T,Vj l S f=some T->∀fs fd,P.underlying S=some (.struct fs)->fs[f]?=some fd->fd.type=T
def ftB (P:Program)(x:(Nat×Nat)×Nat):Bool:=
 match P.underlying x.1.1 with
 |some (.struct fs)=>match fs[x.1.2]? with|some fd=>fd.type==x.2|none=>true
 |_=>true
theorem Vk {P:Program}:∀{l:au ((Nat×Nat)×Nat)},(l.all (ftB P))=true->Za P l
 |[],_,S,f,T,h=>by simp[Vj]at h
 |((u,k),U)::l,hl,S,f,T,h=>by
  simp only[bO,ah]at hl;simp only[Vj]at h;cases hu:(u==S&&k==f)with
  |true=>rw[hu]at h;simp at h hu;obtain⟨rfl,rfl⟩:=hu;subst h;intro fs fd hS hf;have:=hl.1;simp only[ftB,hS,hf]at this;simpa using this
  |false=>rw[hu]at h;exact Vk hl.2 S f T h
theorem aek {T:TypeId}{sh:Shape}(hT:acF P T sh)(cs:gP)(off:Nat)(gk:off+sh.ct.size<=cs.length): ∃v,(part T cs.toArray off).run P w=.ok v w/\Cut sh.agg v ((cs.drop off).take sh.ct.size):=by
 obtain⟨i,z,hi,sR,_⟩:=hT.elem.info;cases MY:sh.agg with
 |true=>obtain⟨fs,hu,_⟩:=hT.agg MY;refine⟨.agg (cs.toArray.extract off (off+sh.ct.size)),?_,?_⟩;simp only[part,isAgg,sizeOf,typeInfo,underlying,Sem.run_bind,run_program,hu,hi,Result.andThen_ok,Sem.run_pure,sR,bN,Sem.run_ite];simp only[Cut,bN];congr 1;apply dQ;simp[List.take_drop]
 |false=>
  have h1:sh.ct.size=1:=by cases LO:sh.ct with|pair a b=>have:=hT.pair a b LO;rw[MY]at this;cases this|_=>rfl
  rw[h1]at gk⊢;have gq:off<cs.length:=by omega
  refine⟨cs[off],?_,?_⟩;have hnu:∃d,P.underlying T=some d/\(match d with| .struct _| .array _ _=>True|_=>False)=False:=by cases LO:sh.ct with|pair a b=>have:=hT.pair a b LO;rw[MY]at this;cases this|int k=>exact⟨_,hT.int k LO MY,rfl⟩|bool=>exact⟨_,hT.bool LO MY,rfl⟩|str=>exact⟨_,hT.str LO MY,rfl⟩|sl e=>obtain⟨te,hu,_⟩:=hT.sl e LO MY;exact⟨_,hu,rfl⟩
  obtain⟨d,hu,hd⟩:=hnu;simp only[part,isAgg,underlying,Sem.run_bind,run_program,hu,Result.andThen_ok,Sem.run_pure];cases d<;>simp at hd<;>simp[al gq];simp only[Cut,aY,bV];rw[bQ gq];rfl
theorem Uu {E:Env}(hE:jf P E.ty)(hF:Za P E.fts){o:Oper}{S:TypeId}{t f:Nat}(ho:o.op=.field S (.tmp t) f)(h:nb C st a w){K:AS->aw R}(hk:G6 E o S t f st K=some r):mJ P C o a w K r:=by
 obtain⟨g,h⟩:=h;unfold G6 at hk;split at hk;rename_i ct jJ cs T hS hg hT;split at hk;rename_i fo n sh P3 hsh;split at hk;rename_i hc;obtain⟨rfl,hcl,gk⟩:=hc;obtain⟨fs,hu,HI⟩:=(hE S _ hS).agg rfl;rw[dv]at P3;obtain⟨fd,hfd,aif,hn,i,hi,sR⟩:=HI f fo _ P3;have hty:=hF S f T hT fs fd hu hfd;have htl:t<st.slots.length:=by
  rcases bL t st.slots.length with gq|zX;exact gq;have:st.get t=.bot:=by simp[AS.get,dv,bE zX]
  rw[this]at hg;cases hg
 obtain⟨fp,hr,D9,hl⟩:=h.slot t;rw[hg]at hr;obtain⟨vs,dM,hr⟩:=hr;have hlen:=hr.length;obtain⟨v,UP,ah1⟩:=aek (P:=P) (w:=w) (hE T sh hsh) vs fo (by omega);have dA:(execOp a.eval o).run P w=.ok (.value v) w:=by
  have he:a.eval (.tmp t)=.agg vs.toArray:=by simp only[Cut,bN]at dM;exact dM
  simp only[execOp,ho,he,Instr.field,underlying,Sem.run_bind,run_program,hu,Result.andThen_ok,Sem.run_pure,hfd,asAgg,aif,hty,UP]
 obtain⟨f1,f2,f3,rfl,r1,r2,r3⟩:=hr.mid fo sh.ct.size;have SI:=D9;rw[aP]at SI;have n1:=aB.1 SI;have n2:=aB.1 n1.2.1;let PV:AV:=.val true (cS cs fo (aS st.ep ((cs.drop fo).take sh.ct.size)));let st':AS:=st.put (some t) PV;let g':Gh:={g with dB:=λb=>if b∈f2 then some (.hand 0) else g.dB b}
 have hle:(cq C g st w).Le (cq C g' st' w):=by have:= @S2 C g st w (some t) PV;exact⟨this.A,this.hdr,this.Uh,this.ep,this.JW,this.abQ⟩
 have WL:∀b y,g.dB b=some y->b∉f2->g'.dB b=some y:=by intro b y hb hm;show(if b∈f2 then _ else _)=_;rw[aE hm];exact hb
 have ME:∀b y,y≠ .slot t->g.dB b=some y->b∉f2:=λb y hy hb hm=>hy (by have:=hl b (by simp[hm]);rw[hb]at this;simpa using this);have ao5:bp (cq C g' st' w) vs (cS cs fo (aS st.ep ((cs.drop fo).take sh.ct.size))) (f1++f3):=by
  have hbl:(aS st.ep ((cs.drop fo).take sh.ct.size)).length=sh.ct.size:=by simp[aS];omega
  have e:vs=vs.take fo++(vs.drop fo).take sh.ct.size++vs.drop (fo+sh.ct.size):=by rw[aP,<-dJ,cf,cf]
  have:=bp.append (bp.append (r1.mono hle (λb _=>⟨rfl,rfl⟩)) ((r2.aS).mono hle (by simp))) (r3.mono hle (λb _=>⟨rfl,rfl⟩));rw[<-e,br]at this;rw[cS,hbl];exact this
 have ahm:dk C g' st' a w [(v,.val sh.agg ((cs.drop fo).take sh.ct.size))]:=by
  refine h.step (λy=>y≠ .slot t) hle h.defers (by show _=(st.put (some t) PV).slots.length;rw[fw,aJ];exact h.size) (by show(st.put (some t) PV).boxes.length=(st.put (some t) PV).slots.length;rw[kx,fw,aJ];exact h.bsize) h.frame ?_ (λb y hy hb=>⟨WL b y hb (ME b y hy hb),rfl,rfl⟩) ?_ ?_ ?_ (.inl ⟨by simp,KZ⟩);intro b y hy;have Q1:(if b∈f2 then some (iT.hand 0) else g.dB b)=some y:=hy;by_cases hm:b∈f2;exact h.fa b _ (hl b (by simp[hm]));rw[aE hm]at Q1;exact h.fa b y Q1;intro j bv hj;have hj':(st.slots.set t PV)[j]?=some bv:=by rw[<-fw];exact hj
  by_cases hjt:j=t;subst hjt;rw[bk]at hj';simp only[bN,htl]at hj';simp at hj';subst hj';refine .inr ⟨f1++f3,⟨vs,dM,ao5⟩,?_,?_⟩;refine aB.2 ⟨n1.1,n2.2.1,?_⟩;rintro b hb c hc rfl;exact n1.2.2 b hb b (ba _ hc) rfl;intro b hb;refine WL b _ (hl b (by rcases ay.1 hb with k|k<;>simp[k])) (λhm=>?_);rcases ay.1 hb with k|k;exact n1.2.2 b k b (bj _ hm) rfl;exact n2.2.2 b hm b k rfl;rw[aN (cD hjt)]at hj';exact .inl ⟨by simpa using hjt,hj',rfl⟩;intro s mK hb;have gn:st.boxes[s]?=some (some mK):=by rw[<-kx (d:=some t) (v:=PV)];exact hb
  exact .inl ⟨by simp,gn,rfl⟩;intro k u bv Gf;cases k with
  |zero=>simp only[ch,aZ,Prod.mk.injEq]at Gf;obtain⟨rfl,rfl⟩:=Gf;refine .inr ⟨f2,⟨_,ah1,r2.mono hle (λb _=>⟨rfl,rfl⟩)⟩,n2.1,λb hb=>?_⟩;show(if b∈f2 then _ else _)=_;rw[aF hb]
  |succ k=>simp at Gf
 exact⟨v,w,_,.inl dA,dk.EI ahm o.dst,hk⟩;cases hk;cases hk;cases hk
end Go.Dn
