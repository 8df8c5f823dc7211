import Derived.Test.YtfbhfnniblfpbaaGreatDnOps7
/- Part 8: copy, and fields of structs in slots. -/
namespace Go.Dn
open Go.RowKit
variable {P:Program} {C:Ctx} {st:AS} {a:Act} {w:World} {R:Type} {r:R}
variable {lo:Nat} {ys:cL}
theorem SW {zs:cL}(h:lo+zs.length<=ys.length):(Dq ys lo zs).length=ys.length:=by simp[Dq];omega
theorem abF {zs:cL}(h:lo+zs.length<=ys.length)(j:Nat):(Dq ys lo zs)[j]?=if lo<=j/\j<lo+zs.length then zs[j-lo]? else ys[j]?:=by
 unfold Dq;have hl:(ys.take lo).length=lo:=by simp;omega
 by_cases h1:j<lo;rw[mQ,bH (by omega),dz,aF h1];rw[bz (by omega),hl];by_cases h2:j<lo+zs.length;rw[zip,bH (by omega)];rw[mQ,bz (by omega),bV];congr 1;omega
theorem abG:Dq ys lo []=ys:=by simp[Dq]
theorem aap {o:Oper}{s x:Operand}{t t':TypeId}(ho:o.op=.call {callee:=.builtin .copy,args:=#[s,x],argTypes:=#[t,t']}){v:Value}{w':World}(h:(Builtin.copy_ #[t,t'] o.type #[a.eval s,a.eval x]).run P w=.ok v w'):(execOp a.eval o).run P w=.ok (.value v) w':=by
 have e1:(#[s,x]:Array Operand).map a.eval=#[a.eval s,a.eval x]:=by simp
 simp only[execOp,ho,resolve,e1,Sem.run_bind,Sem.run_pure,Result.andThen_ok,invoke,builtin];show((Builtin.copy_ #[t,t'] o.type #[a.eval s,a.eval x]).run P w).andThen _=_;rw[h];rfl
theorem aaj {E:Env}(hE:jA P E.ty){o:Oper}{args:Array Operand}{ts:Array TypeId}(ho:o.op=.call {callee:=.builtin .copy,args,argTypes:=ts})(h:oz C st a w){K:AS->ax R}(hk:Qd E o ts.toList args.toList st K=some r):mW P C o a w K r:=by
 obtain⟨g,hg⟩:=h;unfold Qd at hk;split at hk;rename_i t t' ep rt tg lo e xs s ur fy;obtain⟨x,y,rfl,hx,hy⟩:=O6 fy;have et:ts=#[t,t']:=by apply eO;simpa using ur
 subst et;split at hk;rename_i tg' e' ys gL;split at hk;rename_i hee;subst hee;split at hk;rename_i hc;obtain⟨rfl,hT,hT',zM,rfl⟩:=hc;simp only at hk;have vH:=hg.rd x;rw[hx]at vH;have hxc:=ew vH;have QE:=hg.rd y;rw[hy]at QE;have hsv:=(ew QE).1;obtain⟨te,hu,⟨⟨inf,z,Db,uq,_⟩,_⟩⟩:=FU hE hT;have ao1:inf.size=1:=uq;obtain⟨v0,f2,ed,E1,Af,ri⟩:=hg.S4 rt (by simp) gL;obtain⟨_,_,⟨o1,n1,k1,hv1,Kk⟩,UE⟩:=hxc;obtain⟨II,UE⟩:=UE zM;have hm:(s.take xs.length).length=Nat.min s.length xs.length:=by simp[Nat.min_comm]
 have hzl:(dq (s.take xs.length)).length=Nat.min s.length xs.length:=by rw[dq,cA,hm]
 have CJ:((ByteArray.mk s.toArray).extract 0 (Nat.min s.length xs.length)).data.map (λb=>Value.int .u8 b.toNat)=((dq (s.take xs.length)).map (Value.int .u8)).toArray:=by
  rw[extract_mk];simp only[eG,dq,List.map_map];have:s.take (Nat.min s.length xs.length)=s.take xs.length:=by show s.take (min s.length xs.length)=_;rcases Nat.le_total s.length xs.length with h|h;rw[ja h,bL (aU _),bL h];rw[Nat.min_eq_right h]
  rw[this];simp;rfl
 have hN:(Nat.min xs.length s.length:Nat)=Nat.min s.length xs.length:=Nat.min_comm _ _
 have dX:∀w',(match o1 with|some ad=>(storeCells ad ((dq (s.take xs.length)).map (Value.int .u8))).run P w=.ok () w'|none=>w'=w)->
  (execOp a.eval o).run P w=.ok (.value (.int .i64 (Nat.min xs.length s.length:Nat))) w':=by
  intro w' hw
  refine aap ho ?_
  rw[hv1,Kk,hsv,hN]
  simp only[Builtin.copy_]
  simp only[underlying,Sem.run_bind,run_program,hu,Result.andThen_ok,Sem.run_pure,List.getElem?_toArray,cz,eH,Builtin.lenOf,sizeOf,typeInfo,Db,Builtin.firstCells,yB,CJ]
  cases o1 with
  |none=>simp only at hw;subst hw;simp[goInt]
  |some ad=>simp only at hw;simp[hw,goInt]
 have key:∀w',(match o1 with|some ad=>(storeCells ad ((dq (s.take xs.length)).map (Value.int .u8))).run P w=.ok () w'|none=>w'=w)->Fr (λb=>dD (g.ej b)\/b∈f2) w w'->w'.heap.size=w.heap.size->
  eP g.hw w' (.sl (.int .u8)) [v0] (Dq ys lo.toNat (dq (s.take xs.length))) f2->mW P C o a w K r:=by
  intro w' hw jz aaI fU
  obtain⟨g',oy⟩:=ri w' g.hw (.sl (.own (some tg')) (.int .u8) (Dq ys lo.toNat (dq (s.take xs.length)))) f2 (λc' hle Qz EV=>⟨by rw[Qz,EV];exact fU,λt ht=>by have h1:=ed.2 t ht;exact⟨(hle.hdr t h1.1).1,by rw[(hle.hdr t h1.1).2];exact h1.2⟩⟩) E1 (λb hb=>⟨by rw[aaI];exact(hg.fR b _ (Af b hb)).1,.inl hb⟩) jz (λ_ _ _ _ _=>rfl)
  exact⟨_,_,_,.inl (dX w' hw),⟨g',oy.quiet o.dst (av:=.one (.int .i64 (min xs.length s.length:Nat))) (mH (kC _ _ _))⟩,hk⟩
 have Ll:v0=g.hdr tg':=(ed.2 tg' rfl).2;have fU:=ed.1;by_cases hxs:xs=[]
 subst hxs;have hz:dq (s.take ([]:cL).length)=[]:=by simp[dq]
 rw[hz]at key;refine key w ?_ (Fr.refl _ _) rfl (by rw[abG];exact fU);cases o1 with|none=>rfl|some ad=>simp[storeCells]
 rcases UE with rfl|⟨n,b,o0,len,cap,k2,hlo,L3,hle,hvx⟩;exact absurd rfl hxs;have L3:g.hdr tg'=.slice (some ⟨b,o0,none⟩) len cap:=L3;rw[hv1]at hvx;simp only[Value.slice.injEq,CT.size,nw]at hvx;obtain⟨rfl,_,_⟩:=hvx;obtain⟨u,Xt,hO⟩:=fU;simp at Xt;subst Xt;rw[L3]at Ll;have hxl:xs.length≠0:=λh=>hxs (ca h);rcases hO with⟨⟨ad,rfl⟩,rfl,rfl⟩|⟨b2,o2,W2,arr,T,fr,fps,rfl,hb,tw,hs,hc,hh,rfl,hl,hr⟩;simp only[Value.slice.injEq]at Ll;omega;have hb:w.heap[b2]?=some (.cells arr T fr):=hb;simp only[Value.slice.injEq,ba,Addr.mk.injEq]at Ll;obtain⟨⟨rfl,rfl,_⟩,hyl,rfl⟩:=Ll;simp only[CT.size,nw]at hs hh hr;have hh:g.hw b2=o2+ys.length:=hh;have aop:lo.toNat=n:=by omega
 have aoZ:Nat.min s.length xs.length<=xs.length:=Nat.min_le_right _ _;have gy:n+(dq (s.take xs.length)).length<=ys.length:=by rw[hzl];omega
 have agz:o2+n+((dq (s.take xs.length)).map (Value.int .u8)).length<=arr.size:=by rw[cA];omega
 have lE:=xl P b2 (o2+n) T fr ((dq (s.take xs.length)).map (Value.int .u8)) 0 w arr hb tw (by simpa using agz) (by simp[Value.oneCell']);simp only[eh]at lE;have G5:=mc hb;refine key _ lE ⟨rfl,rfl,rfl,by rw[lM];exact aU _,λc _ hc=>mP (λe=>hc (.inr (by simp[e])))⟩ (lM ..) ?_;rw[aop];have hlen:=SW gy;refine⟨_,rfl,.inr ⟨b2,o2,W2,_,T,fr,fps,by rw[hlen],yb G5,λj hj=>tw j (by rwa[iz]at hj),by rw[iz];simpa[CT.size]using hs,by rw[hlen];exact hc,by rw[hlen];simpa[CT.size]using hh,rfl,by rw[hlen];exact hl,?_⟩⟩;intro i q f hq hf;simp only[CT.size,nw];have Pw:i<ys.length:=by have:=(aE.1 hq).1;omega
 have hold:=hr i ys[i] f (al Pw) hf;refine⟨?_,hold.2⟩;have C8:(eC arr (o2+n) ((dq (s.take xs.length)).map (Value.int .u8))).toList[o2+i]?=some (.int .u8 q):=by
  rw[zw agz];rw[abF gy]at hq;simp only[cA];by_cases vS:n<=i/\i<n+(dq (s.take xs.length)).length;rw[aF vS]at hq;rw[zip,show o2+i-(o2+n)=i-n by omega,List.getElem?_map,hq];rfl;rw[aH vS]at hq;rw[mQ];have h1:=hold.1;have h2:((arr.toList.drop (o2+i)).take 1)[0]?=some (.int .u8 ys[i]):=by rw[h1];rfl
  rw[ju]at h2;simp only[Nat.zero_lt_one,cp,eh]at h2;rw[al Pw]at hq;simp at hq;rw[h2,hq]
 have gB:o2+i<(eC arr (o2+n) ((dq (s.take xs.length)).map (Value.int .u8))).toList.length:=(aE.1 C8).1;rw[bN gB];have:=(aE.1 C8).2;simp[this];cases hk;cases hk;cases hk;cases hk
def YZ (P:Program)(l:au ((Nat×Nat)×Nat)):Prop:=∀S f T,U8 l S f=some T->∀fs fd,P.underlying S=some (.struct fs)->fs[f]?=some fd->fd.type=T
def ftB (P:Program)(x:(Nat×Nat)×Nat):Bool:=
 match P.underlying x.1.1 with
 |some (.struct fs)=>match fs[x.1.2]? with|some fd=>fd.type==x.2|none=>true
 |_=>true
theorem U9 {P:Program}:∀{l:au ((Nat×Nat)×Nat)},(l.all (ftB P))=true->YZ P l
 |[],_,S,f,T,h=>by simp[U8]at h
 |((u,k),U)::l,hl,S,f,T,h=>by
  simp only[bR,ah]at hl;simp only[U8]at h;cases hu:(u==S&&k==f)with
  |true=>rw[hu]at h;simp at h hu;obtain⟨rfl,rfl⟩:=hu;subst h;intro fs fd hS hf;have:=hl.1;simp only[ftB,hS,hf]at this;simpa using this
  |false=>rw[hu]at h;exact U9 hl.2 S f T h
theorem aei {T:TypeId}{sh:Shape}(hT:acI P T sh)(cs:ie)(off:Nat)(gy:off+sh.ct.size<=cs.length): ∃v,(part T cs.toArray off).run P w=.ok v w/\Cut sh.agg v ((cs.drop off).take sh.ct.size):=by
 obtain⟨i,z,hi,uq,_⟩:=hT.elem.info;cases Mr:sh.agg with
 |true=>obtain⟨fs,hu,_⟩:=hT.agg Mr;refine⟨.agg (cs.toArray.extract off (off+sh.ct.size)),?_,?_⟩;simp only[part,isAgg,sizeOf,typeInfo,underlying,Sem.run_bind,run_program,hu,hi,Result.andThen_ok,Sem.run_pure,uq,cp,Sem.run_ite];simp only[Cut,cp];congr 1;apply eO;simp[List.take_drop]
 |false=>
  have h1:sh.ct.size=1:=by cases Li:sh.ct with|pair a b=>have:=hT.pair a b Li;rw[Mr]at this;cases this|_=>rfl
  rw[h1]at gy⊢;have gB:off<cs.length:=by omega
  refine⟨cs[off],?_,?_⟩;have hnu:∃d,P.underlying T=some d/\(match d with| .struct _| .array _ _=>True|_=>False)=False:=by cases Li:sh.ct with|pair a b=>have:=hT.pair a b Li;rw[Mr]at this;cases this|int k=>exact⟨_,hT.int k Li Mr,rfl⟩|bool=>exact⟨_,hT.bool Li Mr,rfl⟩|str=>exact⟨_,hT.str Li Mr,rfl⟩|sl e=>obtain⟨te,hu,_⟩:=hT.sl e Li Mr;exact⟨_,hu,rfl⟩
  obtain⟨d,hu,hd⟩:=hnu;simp only[part,isAgg,underlying,Sem.run_bind,run_program,hu,Result.andThen_ok,Sem.run_pure];cases d<;>simp at hd<;>simp[al gB];simp only[Cut,aX,cc];rw[bN gB];rfl
theorem T9 {E:Env}(hE:jA P E.ty)(hF:YZ P E.fts){o:Oper}{S:TypeId}{t f:Nat}(ho:o.op=.field S (.tmp t) f)(h:oz C st a w){K:AS->ax R}(hk:Gf E o S t f st K=some r):mW P C o a w K r:=by
 obtain⟨g,h⟩:=h;unfold Gf at hk;split at hk;rename_i ct kb cs T hS hg hT;split at hk;rename_i fo n sh Px hsh;split at hk;rename_i hc;obtain⟨rfl,hcl,gy⟩:=hc;obtain⟨fs,hu,H9⟩:=(hE S _ hS).agg rfl;rw[dJ]at Px;obtain⟨fd,hfd,aiy,hn,i,hi,uq⟩:=H9 f fo _ Px;have hty:=hF S f T hT fs fd hu hfd;have htl:t<st.slots.length:=by
  rcases bQ t st.slots.length with gB|Ae;exact gB;have:st.get t=.bot:=by simp[AS.get,dJ,bJ Ae]
  rw[this]at hg;cases hg
 obtain⟨fp,hr,Ft,hl⟩:=h.slot t;rw[hg]at hr;obtain⟨vs,eR,hr⟩:=hr;have hlen:=hr.length;obtain⟨v,UE,aij⟩:=aei (P:=P) (w:=w) (hE T sh hsh) vs fo (by omega);have dX:(execOp a.eval o).run P w=.ok (.value v) w:=by
  have he:a.eval (.tmp t)=.agg vs.toArray:=by simp only[Cut,cp]at eR;exact eR
  simp only[execOp,ho,he,Instr.field,underlying,Sem.run_bind,run_program,hu,Result.andThen_ok,Sem.run_pure,hfd,asAgg,aiy,hty,UE]
 obtain⟨f1,f2,f3,rfl,r1,r2,r3⟩:=hr.mid fo sh.ct.size;have Sp:=Ft;rw[aZ]at Sp;have n1:=aJ.1 Sp;have n2:=aJ.1 n1.2.1;let Pm:AV:=.val true (dZ cs fo (aS st.ep ((cs.drop fo).take sh.ct.size)));let bM:AS:=st.put (some t) Pm;let g':Gh:={g with ej:=λb=>if b∈f2 then some (.hand 0) else g.ej b}
 have hle:(cQ C g st w).Le (cQ C g' bM w):=by have:= @SL C g st w (some t) Pm;exact⟨this.A,this.hdr,this.TZ,this.ep,this.Jm,this.abO⟩
 have Wy:∀b y,g.ej b=some y->b∉f2->g'.ej b=some y:=by intro b y hb hm;show(if b∈f2 then _ else _)=_;rw[aH hm];exact hb
 have L4:∀b y,y≠ .slot t->g.ej b=some y->b∉f2:=λb y hy hb hm=>hy (by have:=hl b (by simp[hm]);rw[hb]at this;simpa using this);have aoC:bE (cQ C g' bM w) vs (dZ cs fo (aS st.ep ((cs.drop fo).take sh.ct.size))) (f1++f3):=by
  have hbl:(aS st.ep ((cs.drop fo).take sh.ct.size)).length=sh.ct.size:=by simp[aS];omega
  have e:vs=vs.take fo++(vs.drop fo).take sh.ct.size++vs.drop (fo+sh.ct.size):=by rw[aZ,<-ec,bW,bW]
  have:=bE.append (bE.append (r1.mono hle (λb _=>⟨rfl,rfl⟩)) ((r2.aS).mono hle (by simp))) (r3.mono hle (λb _=>⟨rfl,rfl⟩));rw[<-e,bA]at this;rw[dZ,hbl];exact this
 have ahs:dN C g' bM a w [(v,.val sh.agg ((cs.drop fo).take sh.ct.size))]:=by
  refine h.step (λy=>y≠ .slot t) hle h.defers (by show _=(st.put (some t) Pm).slots.length;rw[fD,aB];exact h.size) (by show(st.put (some t) Pm).boxes.length=(st.put (some t) Pm).slots.length;rw[kM,fD,aB];exact h.bsize) h.frame ?_ (λb y hy hb=>⟨Wy b y hb (L4 b y hy hb),rfl,rfl⟩) ?_ ?_ ?_ (.inl ⟨by simp,Kt⟩);intro b y hy;have QD:(if b∈f2 then some (jI.hand 0) else g.ej b)=some y:=hy;by_cases hm:b∈f2;exact h.fR b _ (hl b (by simp[hm]));rw[aH hm]at QD;exact h.fR b y QD;intro j bv hj;have hj':(st.slots.set t Pm)[j]?=some bv:=by rw[<-fD];exact hj
  by_cases hjt:j=t;subst hjt;rw[br]at hj';simp only[cp,htl]at hj';simp at hj';subst hj';refine .inr ⟨f1++f3,⟨vs,eR,aoC⟩,?_,?_⟩;refine aJ.2 ⟨n1.1,n2.2.1,?_⟩;rintro b hb c hc rfl;exact n1.2.2 b hb b (bk _ hc) rfl;intro b hb;refine Wy b _ (hl b (by rcases aA.1 hb with k|k<;>simp[k])) (λhm=>?_);rcases aA.1 hb with k|k;exact n1.2.2 b k b (bt _ hm) rfl;exact n2.2.2 b hm b k rfl;rw[aR (cY hjt)]at hj';exact .inl ⟨by simpa using hjt,hj',rfl⟩;intro s rf hb;have gQ:st.boxes[s]?=some (some rf):=by rw[<-kM (d:=some t) (v:=Pm)];exact hb
  exact .inl ⟨by simp,gQ,rfl⟩;intro k u bv Fs;cases k with
  |zero=>simp only[cz,ba,Prod.mk.injEq]at Fs;obtain⟨rfl,rfl⟩:=Fs;refine .inr ⟨f2,⟨_,aij,r2.mono hle (λb _=>⟨rfl,rfl⟩)⟩,n2.1,λb hb=>?_⟩;show(if b∈f2 then _ else _)=_;rw[aF hb]
  |succ k=>simp at Fs
 exact⟨v,w,_,.inl dX,dN.Ea ahs o.dst,hk⟩;cases hk;cases hk;cases hk
end Go.Dn
