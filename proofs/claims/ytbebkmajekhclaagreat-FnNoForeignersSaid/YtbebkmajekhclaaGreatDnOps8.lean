import Derived.Test.YtbebkmajekhclaaGreatDnOps7
/- Part 8: copy, and fields of structs in slots. -/
namespace Go.Dn
open Go.RowKit
variable {P:Program} {C:Ctx} {st:AS} {a:Act} {w:World} {R:Type} {r:R}
variable {lo:Nat} {ys:bW}
theorem VT {zs:bW}(h:lo+zs.length<=ys.length):(Eo ys lo zs).length=ys.length:=by simp[Eo];omega
theorem agC {zs:bW}(h:lo+zs.length<=ys.length)(j:Nat):(Eo ys lo zs)[j]?=if lo<=j/\j<lo+zs.length then zs[j-lo]? else ys[j]?:=by
 unfold Eo;have hl:(ys.take lo).length=lo:=by simp;omega
 by_cases h1:j<lo;rw[nU,bF (by omega),ej,aI h1];rw[bA (by omega),hl];by_cases h2:j<lo+zs.length;rw[zip,bF (by omega)];rw[nU,bA (by omega),bQ];congr 1;omega
theorem agD:Eo ys lo []=ys:=by simp[Eo]
theorem afe {o:Oper}{s x:Operand}{t t':TypeId}(ho:o.op=.call {callee:=.builtin .copy,args:=#[s,x],argTypes:=#[t,t']}){v:Value}{w':World}(h:(Builtin.copy_ #[t,t'] o.type #[a.eval s,a.eval x]).run P w=.ok v w'):(execOp a.eval o).run P w=.ok (.value v) w':=by
 have e1:(#[s,x]:Array Operand).map a.eval=#[a.eval s,a.eval x]:=by simp
 simp only[execOp,ho,resolve,e1,Sem.run_bind,Sem.run_pure,Result.andThen_ok,invoke,builtin];show((Builtin.copy_ #[t,t'] o.type #[a.eval s,a.eval x]).run P w).andThen _=_;rw[h];rfl
theorem ae5 {E:Env}(hE:kq P E.ty){o:Oper}{args:Array Operand}{ts:Array TypeId}(ho:o.op=.call {callee:=.builtin .copy,args,argTypes:=ts})(h:pL C st a w){K:AS->az R}(hk:Sw E o ts.toList args.toList st K=some r):oa P C o a w K r:=by
 obtain⟨g,hg⟩:=h;unfold Sw at hk;split at hk;rename_i t t' ep rt tg lo e xs s vr gP;obtain⟨x,y,rfl,hx,hy⟩:=Rl gP;have et:ts=#[t,t']:=by apply fR;simpa using vr
 subst et;split at hk;rename_i tg' e' ys iR;split at hk;rename_i hee;subst hee;split at hk;rename_i hc;obtain⟨rfl,hT,hT',Aw,rfl⟩:=hc;simp only at hk;have wN:=hg.rd x;rw[hx]at wN;have hxc:=fw wN;have S4:=hg.rd y;rw[hy]at S4;have hsv:=(fw S4).1;obtain⟨te,hu,⟨⟨inf,z,D6,vZ,_⟩,_⟩⟩:=GP hE hT;have aws:inf.size=1:=vZ;obtain⟨v0,f2,fM,BL,BK,si⟩:=hg.V1 rt (by simp) iR;obtain⟨_,_,⟨o1,n1,k1,hv1,Js⟩,XS⟩:=hxc;obtain⟨NW,XS⟩:=XS Aw;have hm:(s.take xs.length).length=Nat.min s.length xs.length:=by simp[Nat.min_comm]
 have hzl:(dy (s.take xs.length)).length=Nat.min s.length xs.length:=by rw[dy,bH,hm]
 have DC:((ByteArray.mk s.toArray).extract 0 (Nat.min s.length xs.length)).data.map (λb=>Value.int .u8 b.toNat)=((dy (s.take xs.length)).map (Value.int .u8)).toArray:=by
  rw[extract_mk];simp only[eL,dy,List.map_map];have:s.take (Nat.min s.length xs.length)=s.take xs.length:=by show s.take (min s.length xs.length)=_;rcases Nat.le_total s.length xs.length with h|h;rw[iW h,cf (bj _),cf h];rw[Nat.min_eq_right h]
  rw[this];simp;rfl
 have hN:(Nat.min xs.length s.length:Nat)=Nat.min s.length xs.length:=Nat.min_comm _ _
 have fg:∀w',(match o1 with|some ad=>(storeCells ad ((dy (s.take xs.length)).map (Value.int .u8))).run P w=.ok () w'|none=>w'=w)->
  (execOp a.eval o).run P w=.ok (.value (.int .i64 (Nat.min xs.length s.length:Nat))) w':=by
  intro w' hw
  refine afe ho ?_
  rw[hv1,Js,hsv,hN]
  simp only[Builtin.copy_]
  simp only[underlying,Sem.run_bind,run_program,hu,Result.andThen_ok,Sem.run_pure,List.getElem?_toArray,cD,eT,Builtin.lenOf,sizeOf,typeInfo,D6,Builtin.firstCells,zB,DC]
  cases o1 with
  |none=>simp only at hw;subst hw;simp[goInt]
  |some ad=>simp only at hw;simp[hw,goInt]
 have key:∀w',(match o1 with|some ad=>(storeCells ad ((dy (s.take xs.length)).map (Value.int .u8))).run P w=.ok () w'|none=>w'=w)->Fr (λb=>eE (g.ft b)\/b∈f2) w w'->w'.heap.size=w.heap.size->
  fZ g.hw w' (.sl (.int .u8)) [v0] (Eo ys lo.toNat (dy (s.take xs.length))) f2->oa P C o a w K r:=by
  intro w' hw kb afy iz
  obtain⟨g',pJ⟩:=si w' g.hw (.sl (.own (some tg')) (.int .u8) (Eo ys lo.toNat (dy (s.take xs.length)))) f2 (λc' hle Wu HS=>⟨by rw[Wu,HS];exact iz,λt ht=>by have h1:=fM.2 t ht;exact⟨(hle.hdr t h1.1).1,by rw[(hle.hdr t h1.1).2];exact h1.2⟩⟩) BL (λb hb=>⟨by rw[afy];exact(hg.gW b _ (BK b hb)).1,.inl hb⟩) kb (λ_ _ _ _ _=>rfl)
  exact⟨_,_,_,.inl (fg w' hw),⟨g',pJ.quiet o.dst (av:=.one (.int .i64 (min xs.length s.length:Nat))) (nP (lD _ _ _))⟩,hk⟩
 have PX:v0=g.hdr tg':=(fM.2 tg' rfl).2;have iz:=fM.1;by_cases hxs:xs=[]
 subst hxs;have hz:dy (s.take ([]:bW).length)=[]:=by simp[dy]
 rw[hz]at key;refine key w ?_ (Fr.refl _ _) rfl (by rw[agD];exact iz);cases o1 with|none=>rfl|some ad=>simp[storeCells]
 rcases XS with rfl|⟨n,b,o0,len,cap,k2,hlo,RR,hle,hvx⟩;exact absurd rfl hxs;have RR:g.hdr tg'=.slice (some ⟨b,o0,none⟩) len cap:=RR;rw[hv1]at hvx;simp only[Value.slice.injEq,CT.size,oG]at hvx;obtain⟨rfl,_,_⟩:=hvx;obtain⟨u,Vp,hO⟩:=iz;simp at Vp;subst Vp;rw[RR]at PX;have hxl:xs.length≠0:=λh=>hxs (cq h);rcases hO with⟨⟨ad,rfl⟩,rfl,rfl⟩|⟨b2,o2,aav,arr,T,fr,fps,rfl,hb,uv,hs,hc,hh,rfl,hl,hr⟩;simp only[Value.slice.injEq]at PX;omega;have hb:w.heap[b2]?=some (.cells arr T fr):=hb;simp only[Value.slice.injEq,bq,Addr.mk.injEq]at PX;obtain⟨⟨rfl,rfl,_⟩,hyl,rfl⟩:=PX;simp only[CT.size,oG]at hs hh hr;have hh:g.hw b2=o2+ys.length:=hh;have avC:lo.toNat=n:=by omega
 have awq:Nat.min s.length xs.length<=xs.length:=Nat.min_le_right _ _;have iw:n+(dy (s.take xs.length)).length<=ys.length:=by rw[hzl];omega
 have anc:o2+n+((dy (s.take xs.length)).map (Value.int .u8)).length<=arr.size:=by rw[bH];omega
 have nY:=ye P b2 (o2+n) T fr ((dy (s.take xs.length)).map (Value.int .u8)) 0 w arr hb uv (by simpa using anc) (by simp[Value.oneCell']);simp only[eP]at nY;have Hq:=nz hb;refine key _ nY ⟨rfl,rfl,rfl,by rw[mV];exact bj _,λc _ hc=>nT (λe=>hc (.inr (by simp[e])))⟩ (mV ..) ?_;rw[avC];have hlen:=VT iw;refine⟨_,rfl,.inr ⟨b2,o2,aav,_,T,fr,fps,by rw[hlen],yQ Hq,λj hj=>uv j (by rwa[jn]at hj),by rw[jn];simpa[CT.size]using hs,by rw[hlen];exact hc,by rw[hlen];simpa[CT.size]using hh,rfl,by rw[hlen];exact hl,?_⟩⟩;intro i q f hq hf;simp only[CT.size,oG];have Oo:i<ys.length:=by have:=(aA.1 hq).1;omega
 have hold:=hr i ys[i] f (al Oo) hf;refine⟨?_,hold.2⟩;have D3:(fA arr (o2+n) ((dy (s.take xs.length)).map (Value.int .u8))).toList[o2+i]?=some (.int .u8 q):=by
  rw[Aj anc];rw[agC iw]at hq;simp only[bH];by_cases uB:n<=i/\i<n+(dy (s.take xs.length)).length;rw[aI uB]at hq;rw[zip,show o2+i-(o2+n)=i-n by omega,eU,hq];rfl;rw[aG uB]at hq;rw[nU];have h1:=hold.1;have h2:((arr.toList.drop (o2+i)).take 1)[0]?=some (.int .u8 ys[i]):=by rw[h1];rfl
  rw[kl]at h2;simp only[Nat.zero_lt_one,ch,eP]at h2;rw[al Oo]at hq;simp at hq;rw[h2,hq]
 have gH:o2+i<(fA arr (o2+n) ((dy (s.take xs.length)).map (Value.int .u8))).toList.length:=(aA.1 D3).1;rw[cc gH];have:=(aA.1 D3).2;simp[this];cases hk;cases hk;cases hk;cases hk
def adk (P:Program)(l:ax ((Nat×Nat)×Nat)):Prop:=∀S f T,YF l S f=some T->∀fs fd,P.underlying S=some (.struct fs)->fs[f]?=some fd->fd.type=T
def ftB (P:Program)(x:(Nat×Nat)×Nat):Bool:=
 match P.underlying x.1.1 with
 |some (.struct fs)=>match fs[x.1.2]? with|some fd=>fd.type==x.2|none=>true
 |_=>true
theorem YG {P:Program}:∀{l:ax ((Nat×Nat)×Nat)},(l.all (ftB P))=true->adk P l
 |[],_,S,f,T,h=>by simp[YF]at h
 |((u,k),U)::l,hl,S,f,T,h=>by
  simp only[cj,ae]at hl;simp only[YF]at h;cases hu:(u==S&&k==f)with
  |true=>rw[hu]at h;simp at h hu;obtain⟨rfl,rfl⟩:=hu;subst h;intro fs fd hS hf;have:=hl.1;simp only[ftB,hS,hf]at this;simpa using this
  |false=>rw[hu]at h;exact YG hl.2 S f T h
theorem aj9 {T:TypeId}{sh:Shape}(hT:ahI P T sh)(cs:jt)(off:Nat)(iw:off+sh.ct.size<=cs.length): ∃v,(part T cs.toArray off).run P w=.ok v w/\Cut sh.agg v ((cs.drop off).take sh.ct.size):=by
 obtain⟨i,z,hi,vZ,_⟩:=hT.elem.info;cases Om:sh.agg with
 |true=>obtain⟨fs,hu,_⟩:=hT.agg Om;refine⟨.agg (cs.toArray.extract off (off+sh.ct.size)),?_,?_⟩;simp only[part,isAgg,sizeOf,typeInfo,underlying,Sem.run_bind,run_program,hu,hi,Result.andThen_ok,Sem.run_pure,vZ,ch,Sem.run_ite];simp only[Cut,ch];congr 1;apply fR;simp[List.take_drop]
 |false=>
  have h1:sh.ct.size=1:=by cases MU:sh.ct with|pair a b=>have:=hT.pair a b MU;rw[Om]at this;cases this|_=>rfl
  rw[h1]at iw⊢;have gH:off<cs.length:=by omega
  refine⟨cs[off],?_,?_⟩;have hnu:∃d,P.underlying T=some d/\(match d with| .struct _| .array _ _=>True|_=>False)=False:=by cases MU:sh.ct with|pair a b=>have:=hT.pair a b MU;rw[Om]at this;cases this|int k=>exact⟨_,hT.int k MU Om,rfl⟩|bool=>exact⟨_,hT.bool MU Om,rfl⟩|str=>exact⟨_,hT.str MU Om,rfl⟩|sl e=>obtain⟨te,hu,_⟩:=hT.sl e MU Om;exact⟨_,hu,rfl⟩
  obtain⟨d,hu,hd⟩:=hnu;simp only[part,isAgg,underlying,Sem.run_bind,run_program,hu,Result.andThen_ok,Sem.run_pure];cases d<;>simp at hd<;>simp[al gH];simp only[Cut,bm,cw];rw[cc gH];rfl
theorem Xc {E:Env}(hE:kq P E.ty)(hF:adk P E.fts){o:Oper}{S:TypeId}{t f:Nat}(ho:o.op=.field S (.tmp t) f)(h:pL C st a w){K:AS->az R}(hk:Hh E o S t f st K=some r):oa P C o a w K r:=by
 obtain⟨g,h⟩:=h;unfold Hh at hk;split at hk;rename_i ct kU cs T hS hg hT;split at hk;rename_i fo n sh RU hsh;split at hk;rename_i hc;obtain⟨rfl,hcl,iw⟩:=hc;obtain⟨fs,hu,Jp⟩:=(hE S _ hS).agg rfl;rw[eH]at RU;obtain⟨fd,hfd,aqF,hn,i,hi,vZ⟩:=Jp f fo _ RU;have hty:=hF S f T hT fs fd hu hfd;have htl:t<st.slots.length:=by
  rcases cr t st.slots.length with gH|Cg;exact gH;have:st.get t=.bot:=by simp[AS.get,eH,bI Cg]
  rw[this]at hg;cases hg
 obtain⟨fp,hr,Hs,hl⟩:=h.slot t;rw[hg]at hr;obtain⟨vs,gb,hr⟩:=hr;have hlen:=hr.length;obtain⟨v,XS,aqp⟩:=aj9 (P:=P) (w:=w) (hE T sh hsh) vs fo (by omega);have fg:(execOp a.eval o).run P w=.ok (.value v) w:=by
  have he:a.eval (.tmp t)=.agg vs.toArray:=by simp only[Cut,ch]at gb;exact gb
  simp only[execOp,ho,he,Instr.field,underlying,Sem.run_bind,run_program,hu,Result.andThen_ok,Sem.run_pure,hfd,asAgg,aqF,hty,XS]
 obtain⟨f1,f2,f3,rfl,r1,r2,r3⟩:=hr.mid fo sh.ct.size;have Vm:=Hs;rw[aL]at Vm;have n1:=aQ.1 Vm;have n2:=aQ.1 n1.2.1;let RG:AV:=.val true (eZ cs fo (bf st.ep ((cs.drop fo).take sh.ct.size)));let bZ:AS:=st.put (some t) RG;let g':Gh:={g with ft:=λb=>if b∈f2 then some (.hand 0) else g.ft b}
 have hle:(df C g st w).Le (df C g' bZ w):=by have:= @VJ C g st w (some t) RG;exact⟨this.A,this.hdr,this.WU,this.ep,this.KI,this.agO⟩
 have hlk:∀b y,g.ft b=some y->b∉f2->g'.ft b=some y:=by intro b y hb hm;show(if b∈f2 then _ else _)=_;rw[aG hm];exact hb
 have NX:∀b y,y≠ .slot t->g.ft b=some y->b∉f2:=λb y hy hb hm=>hy (by have:=hl b (by simp[hm]);rw[hb]at this;simpa using this);have avQ:bU (df C g' bZ w) vs (eZ cs fo (bf st.ep ((cs.drop fo).take sh.ct.size))) (f1++f3):=by
  have hbl:(bf st.ep ((cs.drop fo).take sh.ct.size)).length=sh.ct.size:=by simp[bf];omega
  have e:vs=vs.take fo++(vs.drop fo).take sh.ct.size++vs.drop (fo+sh.ct.size):=by rw[aL,<-eK,cI,cI]
  have:=bU.append (bU.append (r1.mono hle (λb _=>⟨rfl,rfl⟩)) ((r2.bf).mono hle (by simp))) (r3.mono hle (λb _=>⟨rfl,rfl⟩));rw[<-e,bD]at this;rw[eZ,hbl];exact this
 have aoC:eJ C g' bZ a w [(v,.val sh.agg ((cs.drop fo).take sh.ct.size))]:=by
  refine h.step (λy=>y≠ .slot t) hle h.defers (by show _=(st.put (some t) RG).slots.length;rw[gG,aC];exact h.size) (by show(st.put (some t) RG).boxes.length=(st.put (some t) RG).slots.length;rw[lR,gG,aC];exact h.bsize) h.frame ?_ (λb y hy hb=>⟨hlk b y hb (NX b y hy hb),rfl,rfl⟩) ?_ ?_ ?_ (.inl ⟨by simp,LP⟩);intro b y hy;have Ww:(if b∈f2 then some (kZ.hand 0) else g.ft b)=some y:=hy;by_cases hm:b∈f2;exact h.gW b _ (hl b (by simp[hm]));rw[aG hm]at Ww;exact h.gW b y Ww;intro j bv hj;have hj':(st.slots.set t RG)[j]?=some bv:=by rw[<-gG];exact hj
  by_cases hjt:j=t;subst hjt;rw[bJ]at hj';simp only[ch,htl]at hj';simp at hj';subst hj';refine .inr ⟨f1++f3,⟨vs,gb,avQ⟩,?_,?_⟩;refine aQ.2 ⟨n1.1,n2.2.1,?_⟩;rintro b hb c hc rfl;exact n1.2.2 b hb b (bw _ hc) rfl;intro b hb;refine hlk b _ (hl b (by rcases ay.1 hb with k|k<;>simp[k])) (λhm=>?_);rcases ay.1 hb with k|k;exact n1.2.2 b k b (bK _ hm) rfl;exact n2.2.2 b hm b k rfl;rw[aP (cZ hjt)]at hj';exact .inl ⟨by simpa using hjt,hj',rfl⟩;intro s sq hb;have iI:st.boxes[s]?=some (some sq):=by rw[<-lR (d:=some t) (v:=RG)];exact hb
  exact .inl ⟨by simp,iI,rfl⟩;intro k u bv Gm;cases k with
  |zero=>simp only[cD,bq,Prod.mk.injEq]at Gm;obtain⟨rfl,rfl⟩:=Gm;refine .inr ⟨f2,⟨_,aqp,r2.mono hle (λb _=>⟨rfl,rfl⟩)⟩,n2.1,λb hb=>?_⟩;show(if b∈f2 then _ else _)=_;rw[aI hb]
  |succ k=>simp at Gm
 exact⟨v,w,_,.inl fg,eJ.E5 aoC o.dst,hk⟩;cases hk;cases hk;cases hk
end Go.Dn
