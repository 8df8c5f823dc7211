import Derived.Test.YthllnaiaikjelaaGreatDnOps7
/- Part 8: copy, and fields of structs in slots. -/
namespace Go.Dn
open Go.RowKit
variable {P:Program} {C:Ctx} {st:AS} {a:Act} {w:World} {R:Type} {r:R}
variable {lo:Nat} {ys:cG}
theorem S3 {zs:cG}(h:lo+zs.length<=ys.length):(DJ ys lo zs).length=ys.length:=by simp[DJ];omega
theorem abA {zs:cG}(h:lo+zs.length<=ys.length)(j:Nat):(DJ ys lo zs)[j]?=if lo<=j/\j<lo+zs.length then zs[j-lo]? else ys[j]?:=by
 unfold DJ;have hl:(ys.take lo).length=lo:=by simp;omega
 by_cases h1:j<lo;rw[mL,bu (by omega),cS,aH h1];rw[bq (by omega),hl];by_cases h2:j<lo+zs.length;rw[zip,bu (by omega)];rw[mL,bq (by omega),bB];congr 1;omega
theorem abB:DJ ys lo []=ys:=by simp[DJ]
theorem aaz {o:Oper}{s x:Operand}{t t':TypeId}(ho:o.op=.call {callee:=.builtin .copy,args:=#[s,x],argTypes:=#[t,t']}){v:Value}{w':World}(h:(Builtin.copy_ #[t,t'] o.type #[a.eval s,a.eval x]).run P w=.ok v w'):(execOp a.eval o).run P w=.ok (.value v) w':=by
 have e1:(#[s,x]:Array Operand).map a.eval=#[a.eval s,a.eval x]:=by simp
 simp only[execOp,ho,resolve,e1,Sem.run_bind,Sem.run_pure,Result.andThen_ok,invoke,builtin];show((Builtin.copy_ #[t,t'] o.type #[a.eval s,a.eval x]).run P w).andThen _=_;rw[h];rfl
theorem aan {E:Env}(hE:iV P E.ty){o:Oper}{args:Array Operand}{ts:Array TypeId}(ho:o.op=.call {callee:=.builtin .copy,args,argTypes:=ts})(h:mM C st a w){K:AS->ar R}(hk:QB E o ts.toList args.toList st K=some r):mq P C o a w K r:=by
 obtain⟨g,hg⟩:=h;unfold QB at hk;split at hk;rename_i t t' ep rt tg lo e xs s qg eR;obtain⟨x,y,rfl,hx,hy⟩:=Px eR;have et:ts=#[t,t']:=by apply dV;simpa using qg
 subst et;split at hk;rename_i tg' e' ys gI;split at hk;rename_i hee;subst hee;split at hk;rename_i hc;obtain⟨rfl,hT,hT',xg,rfl⟩:=hc;simp only at hk;have uS:=hg.rd x;rw[hx]at uS;have hxc:=dM uS;have QZ:=hg.rd y;rw[hy]at QZ;have hsv:=(dM QZ).1;obtain⟨te,hu,⟨⟨inf,z,Dr,sD,_⟩,_⟩⟩:=GJ hE hT;have aqe:inf.size=1:=sD;obtain⟨v0,f2,dx,B6,zT,kJ⟩:=hg.Tc rt (by simp) gI;obtain⟨_,_,⟨o1,n1,k1,hv1,D1⟩,UP⟩:=hxc;obtain⟨FV,UP⟩:=UP xg;have hm:(s.take xs.length).length=Nat.min s.length xs.length:=by simp[Nat.min_comm]
 have hzl:(dg (s.take xs.length)).length=Nat.min s.length xs.length:=by rw[dg,cn,hm]
 have CU:((ByteArray.mk s.toArray).extract 0 (Nat.min s.length xs.length)).data.map (λb=>Value.int .u8 b.toNat)=((dg (s.take xs.length)).map (Value.int .u8)).toArray:=by
  rw[extract_mk];simp only[fj,dg,List.map_map];have:s.take (Nat.min s.length xs.length)=s.take xs.length:=by show s.take (min s.length xs.length)=_;rcases Nat.le_total s.length xs.length with h|h;rw[iE h,bI (bc _),bI h];rw[Nat.min_eq_right h]
  rw[this];simp;rfl
 have hN:(Nat.min xs.length s.length:Nat)=Nat.min s.length xs.length:=Nat.min_comm _ _
 have dD:∀w',(match o1 with|some ad=>(storeCells ad ((dg (s.take xs.length)).map (Value.int .u8))).run P w=.ok () w'|none=>w'=w)->
  (execOp a.eval o).run P w=.ok (.value (.int .i64 (Nat.min xs.length s.length:Nat))) w':=by
  intro w' hw
  refine aaz ho ?_
  rw[hv1,D1,hsv,hN]
  simp only[Builtin.copy_]
  simp only[underlying,Sem.run_bind,run_program,hu,Result.andThen_ok,Sem.run_pure,List.getElem?_toArray,cm,eC,Builtin.lenOf,sizeOf,typeInfo,Dr,Builtin.firstCells,yh,CU]
  cases o1 with
  |none=>simp only at hw;subst hw;simp[goInt]
  |some ad=>simp only at hw;simp[hw,goInt]
 have key:∀w',(match o1 with|some ad=>(storeCells ad ((dg (s.take xs.length)).map (Value.int .u8))).run P w=.ok () w'|none=>w'=w)->Fr (λb=>cX (g.dE b)\/b∈f2) w w'->w'.heap.size=w.heap.size->
  dY g.hw w' (.sl (.int .u8)) [v0] (DJ ys lo.toNat (dg (s.take xs.length))) f2->mq P C o a w K r:=by
  intro w' hw gu aaJ eK
  obtain⟨g',ml⟩:=kJ w' g.hw (.sl (.own (some tg')) (.int .u8) (DJ ys lo.toNat (dg (s.take xs.length)))) f2 (λc' hle Mz Bn=>⟨by rw[Mz,Bn];exact eK,λt ht=>by have h1:=dx.2 t ht;exact⟨(hle.hdr t h1.1).1,by rw[(hle.hdr t h1.1).2];exact h1.2⟩⟩) B6 (λb hb=>⟨by rw[aaJ];exact(hg.ff b _ (zT b hb)).1,.inl hb⟩) gu (λ_ _ _ _ _=>rfl)
  exact⟨_,_,_,.inl (dD w' hw),⟨g',ml.quiet o.dst (av:=.one (.int .i64 (min xs.length s.length:Nat))) (ma (jY _ _ _))⟩,hk⟩
 have L3:v0=g.hdr tg':=(dx.2 tg' rfl).2;have eK:=dx.1;by_cases hxs:xs=[]
 subst hxs;have hz:dg (s.take ([]:cG).length)=[]:=by simp[dg]
 rw[hz]at key;refine key w ?_ (Fr.refl _ _) rfl (by rw[abB];exact eK);cases o1 with|none=>rfl|some ad=>simp[storeCells]
 rcases UP with rfl|⟨n,b,o0,len,cap,k2,hlo,JI,hle,hvx⟩;exact absurd rfl hxs;have JI:g.hdr tg'=.slice (some ⟨b,o0,none⟩) len cap:=JI;rw[hv1]at hvx;simp only[Value.slice.injEq,CT.size,mP]at hvx;obtain⟨rfl,_,_⟩:=hvx;obtain⟨u,QX,hO⟩:=eK;simp at QX;subst QX;rw[JI]at L3;have hxl:xs.length≠0:=λh=>hxs (cw h);rcases hO with⟨⟨ad,rfl⟩,rfl,rfl⟩|⟨b2,o2,T6,arr,T,fr,fps,rfl,hb,qf,hs,hc,hh,rfl,hl,hr⟩;simp only[Value.slice.injEq]at L3;omega;have hb:w.heap[b2]?=some (.cells arr T fr):=hb;simp only[Value.slice.injEq,aZ,Addr.mk.injEq]at L3;obtain⟨⟨rfl,rfl,_⟩,hyl,rfl⟩:=L3;simp only[CT.size,mP]at hs hh hr;have hh:g.hw b2=o2+ys.length:=hh;have apD:lo.toNat=n:=by omega
 have aqd:Nat.min s.length xs.length<=xs.length:=Nat.min_le_right _ _;have gv:n+(dg (s.take xs.length)).length<=ys.length:=by rw[hzl];omega
 have agE:o2+n+((dg (s.take xs.length)).map (Value.int .u8)).length<=arr.size:=by rw[cn];omega
 have lh:=wX P b2 (o2+n) T fr ((dg (s.take xs.length)).map (Value.int .u8)) 0 w arr hb qf (by simpa using agE) (by simp[Value.oneCell']);simp only[dF]at lh;have H0:=lE hb;refine key _ lh ⟨rfl,rfl,rfl,by rw[kV];exact bc _,λc _ hc=>mf (λe=>hc (.inr (by simp[e])))⟩ (kV ..) ?_;rw[apD];have hlen:=S3 gv;refine⟨_,rfl,.inr ⟨b2,o2,T6,_,T,fr,fps,by rw[hlen],xA H0,λj hj=>qf j (by rwa[ik]at hj),by rw[ik];simpa[CT.size]using hs,by rw[hlen];exact hc,by rw[hlen];simpa[CT.size]using hh,rfl,by rw[hlen];exact hl,?_⟩⟩;intro i q f hq hf;simp only[CT.size,mP];have N6:i<ys.length:=by have:=(aD.1 hq).1;omega
 have hold:=hr i ys[i] f (ax N6) hf;refine⟨?_,hold.2⟩;have zS:(ef arr (o2+n) ((dg (s.take xs.length)).map (Value.int .u8))).toList[o2+i]?=some (.int .u8 q):=by
  rw[yZ agE];rw[abA gv]at hq;simp only[cn];by_cases uQ:n<=i/\i<n+(dg (s.take xs.length)).length;rw[aH uQ]at hq;rw[zip,show o2+i-(o2+n)=i-n by omega,List.getElem?_map,hq];rfl;rw[aG uQ]at hq;rw[mL];have h1:=hold.1;have h2:((arr.toList.drop (o2+i)).take 1)[0]?=some (.int .u8 ys[i]):=by rw[h1];rfl
  rw[iT]at h2;simp only[Nat.zero_lt_one,bF,dF]at h2;rw[ax N6]at hq;simp at hq;rw[h2,hq]
 have gM:o2+i<(ef arr (o2+n) ((dg (s.take xs.length)).map (Value.int .u8))).toList.length:=(aD.1 zS).1;rw[cc gM];have:=(aD.1 zS).2;simp[this];cases hk;cases hk;cases hk;cases hk
def Y5 (P:Program)(l:aq ((Nat×Nat)×Nat)):Prop:=∀S f T,Ve l S f=some T->∀fs fd,P.underlying S=some (.struct fs)->fs[f]?=some fd->fd.type=T
def ftB (P:Program)(x:(Nat×Nat)×Nat):Bool:=
 match P.underlying x.1.1 with
 |some (.struct fs)=>match fs[x.1.2]? with|some fd=>fd.type==x.2|none=>true
 |_=>true
theorem Vf {P:Program}:∀{l:aq ((Nat×Nat)×Nat)},(l.all (ftB P))=true->Y5 P l
 |[],_,S,f,T,h=>by simp[Ve]at h
 |((u,k),U)::l,hl,S,f,T,h=>by
  simp only[bC,ah]at hl;simp only[Ve]at h;cases hu:(u==S&&k==f)with
  |true=>rw[hu]at h;simp at h hu;obtain⟨rfl,rfl⟩:=hu;subst h;intro fs fd hS hf;have:=hl.1;simp only[ftB,hS,hf]at this;simpa using this
  |false=>rw[hu]at h;exact Vf hl.2 S f T h
theorem aeq {T:TypeId}{sh:Shape}(hT:acv P T sh)(cs:gO)(off:Nat)(gv:off+sh.ct.size<=cs.length): ∃v,(part T cs.toArray off).run P w=.ok v w/\Cut sh.agg v ((cs.drop off).take sh.ct.size):=by
 obtain⟨i,z,hi,sD,_⟩:=hT.elem.info;cases MX:sh.agg with
 |true=>obtain⟨fs,hu,_⟩:=hT.agg MX;refine⟨.agg (cs.toArray.extract off (off+sh.ct.size)),?_,?_⟩;simp only[part,isAgg,sizeOf,typeInfo,underlying,Sem.run_bind,run_program,hu,hi,Result.andThen_ok,Sem.run_pure,sD,bF,Sem.run_ite];simp only[Cut,bF];congr 1;apply dV;simp[List.take_drop]
 |false=>
  have h1:sh.ct.size=1:=by cases LZ:sh.ct with|pair a b=>have:=hT.pair a b LZ;rw[MX]at this;cases this|_=>rfl
  rw[h1]at gv⊢;have gM:off<cs.length:=by omega
  refine⟨cs[off],?_,?_⟩;have hnu:∃d,P.underlying T=some d/\(match d with| .struct _| .array _ _=>True|_=>False)=False:=by cases LZ:sh.ct with|pair a b=>have:=hT.pair a b LZ;rw[MX]at this;cases this|int k=>exact⟨_,hT.int k LZ MX,rfl⟩|bool=>exact⟨_,hT.bool LZ MX,rfl⟩|str=>exact⟨_,hT.str LZ MX,rfl⟩|sl e=>obtain⟨te,hu,_⟩:=hT.sl e LZ MX;exact⟨_,hu,rfl⟩
  obtain⟨d,hu,hd⟩:=hnu;simp only[part,isAgg,underlying,Sem.run_bind,run_program,hu,Result.andThen_ok,Sem.run_pure];cases d<;>simp at hd<;>simp[ax gM];simp only[Cut,aW,bV];rw[cc gM];rfl
theorem Uo {E:Env}(hE:iV P E.ty)(hF:Y5 P E.fts){o:Oper}{S:TypeId}{t f:Nat}(ho:o.op=.field S (.tmp t) f)(h:mM C st a w){K:AS->ar R}(hk:Hb E o S t f st K=some r):mq P C o a w K r:=by
 obtain⟨g,h⟩:=h;unfold Hb at hk;split at hk;rename_i ct jC cs T hS hg hT;split at hk;rename_i fo n sh PZ hsh;split at hk;rename_i hc;obtain⟨rfl,hcl,gv⟩:=hc;obtain⟨fs,hu,HP⟩:=(hE S _ hS).agg rfl;rw[dv]at PZ;obtain⟨fd,hfd,air,hn,i,hi,sD⟩:=HP f fo _ PZ;have hty:=hF S f T hT fs fd hu hfd;have htl:t<st.slots.length:=by
  rcases bH t st.slots.length with gM|Ad;exact gM;have:st.get t=.bot:=by simp[AS.get,dv,br Ad]
  rw[this]at hg;cases hg
 obtain⟨fp,hr,El,hl⟩:=h.slot t;rw[hg]at hr;obtain⟨vs,dU,hr⟩:=hr;have hlen:=hr.length;obtain⟨v,UP,aic⟩:=aeq (P:=P) (w:=w) (hE T sh hsh) vs fo (by omega);have dD:(execOp a.eval o).run P w=.ok (.value v) w:=by
  have he:a.eval (.tmp t)=.agg vs.toArray:=by simp only[Cut,bF]at dU;exact dU
  simp only[execOp,ho,he,Instr.field,underlying,Sem.run_bind,run_program,hu,Result.andThen_ok,Sem.run_pure,hfd,asAgg,air,hty,UP]
 obtain⟨f1,f2,f3,rfl,r1,r2,r3⟩:=hr.mid fo sh.ct.size;have SB:=El;rw[aO]at SB;have n1:=aB.1 SB;have n2:=aB.1 n1.2.1;let PO:AV:=.val true (cY cs fo (aR st.ep ((cs.drop fo).take sh.ct.size)));let st':AS:=st.put (some t) PO;let g':Gh:={g with dE:=λb=>if b∈f2 then some (.hand 0) else g.dE b}
 have hle:(cv C g st w).Le (cv C g' st' w):=by have:= @SV C g st w (some t) PO;exact⟨this.A,this.hdr,this.T9,this.ep,this.Kh,this.abJ⟩
 have WG:∀b y,g.dE b=some y->b∉f2->g'.dE b=some y:=by intro b y hb hm;show(if b∈f2 then _ else _)=_;rw[aG hm];exact hb
 have MA:∀b y,y≠ .slot t->g.dE b=some y->b∉f2:=λb y hy hb hm=>hy (by have:=hl b (by simp[hm]);rw[hb]at this;simpa using this);have apR:bn (cv C g' st' w) vs (cY cs fo (aR st.ep ((cs.drop fo).take sh.ct.size))) (f1++f3):=by
  have hbl:(aR st.ep ((cs.drop fo).take sh.ct.size)).length=sh.ct.size:=by simp[aR];omega
  have e:vs=vs.take fo++(vs.drop fo).take sh.ct.size++vs.drop (fo+sh.ct.size):=by rw[aO,<-eo,cg,cg]
  have:=bn.append (bn.append (r1.mono hle (λb _=>⟨rfl,rfl⟩)) ((r2.aR).mono hle (by simp))) (r3.mono hle (λb _=>⟨rfl,rfl⟩));rw[<-e,bt]at this;rw[cY,hbl];exact this
 have ahx:dr C g' st' a w [(v,.val sh.agg ((cs.drop fo).take sh.ct.size))]:=by
  refine h.step (λy=>y≠ .slot t) hle h.defers (by show _=(st.put (some t) PO).slots.length;rw[fz,bg];exact h.size) (by show(st.put (some t) PO).boxes.length=(st.put (some t) PO).slots.length;rw[ki,fz,bg];exact h.bsize) h.frame ?_ (λb y hy hb=>⟨WG b y hb (MA b y hy hb),rfl,rfl⟩) ?_ ?_ ?_ (.inl ⟨by simp,Lc⟩);intro b y hy;have QY:(if b∈f2 then some (iO.hand 0) else g.dE b)=some y:=hy;by_cases hm:b∈f2;exact h.ff b _ (hl b (by simp[hm]));rw[aG hm]at QY;exact h.ff b y QY;intro j bv hj;have hj':(st.slots.set t PO)[j]?=some bv:=by rw[<-fz];exact hj
  by_cases hjt:j=t;subst hjt;rw[bj]at hj';simp only[bF,htl]at hj';simp at hj';subst hj';refine .inr ⟨f1++f3,⟨vs,dU,apR⟩,?_,?_⟩;refine aB.2 ⟨n1.1,n2.2.1,?_⟩;rintro b hb c hc rfl;exact n1.2.2 b hb b (aX _ hc) rfl;intro b hb;refine WG b _ (hl b (by rcases ay.1 hb with k|k<;>simp[k])) (λhm=>?_);rcases ay.1 hb with k|k;exact n1.2.2 b k b (bh _ hm) rfl;exact n2.2.2 b hm b k rfl;rw[aS (cC hjt)]at hj';exact .inl ⟨by simpa using hjt,hj',rfl⟩;intro s mr hb;have gA:st.boxes[s]?=some (some mr):=by rw[<-ki (d:=some t) (v:=PO)];exact hb
  exact .inl ⟨by simp,gA,rfl⟩;intro k u bv Gk;cases k with
  |zero=>simp only[cm,aZ,Prod.mk.injEq]at Gk;obtain⟨rfl,rfl⟩:=Gk;refine .inr ⟨f2,⟨_,aic,r2.mono hle (λb _=>⟨rfl,rfl⟩)⟩,n2.1,λb hb=>?_⟩;show(if b∈f2 then _ else _)=_;rw[aH hb]
  |succ k=>simp at Gk
 exact⟨v,w,_,.inl dD,dr.EV ahx o.dst,hk⟩;cases hk;cases hk;cases hk
end Go.Dn
