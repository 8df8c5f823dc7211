import Derived.Test.YtfbhfnniblfpbaaGreatDnOps7
/- Part 8: copy, and fields of structs in slots. -/
namespace Go.Dn
open Go.RowKit
variable {P:Program} {C:Ctx} {st:AS} {a:Act} {w:World} {R:Type} {r:R}
variable {lo:Nat} {ys:dm}
theorem Wr {zs:dm}(h:lo+zs.length<=ys.length):(FG ys lo zs).length=ys.length:=by simp[FG];omega
theorem aft {zs:dm}(h:lo+zs.length<=ys.length)(j:Nat):(FG ys lo zs)[j]?=if lo<=j/\j<lo+zs.length then zs[j-lo]? else ys[j]?:=by
 unfold FG;have hl:(ys.take lo).length=lo:=by simp;omega
 by_cases h1:j<lo;rw[lH,bB (by omega),eJ,aI h1];rw[bJ (by omega),hl];by_cases h2:j<lo+zs.length;rw[zip,bB (by omega)];rw[lH,bJ (by omega),cj];congr 1;omega
theorem afu:FG ys lo []=ys:=by simp[FG]
theorem ad7 {o:Oper}{s x:Operand}{t t':TypeId}(ho:o.op=.call {callee:=.builtin .copy,args:=#[s,x],argTypes:=#[t,t']}){v:Value}{w':World}(h:(Builtin.copy_ #[t,t'] o.type #[a.eval s,a.eval x]).run P w=.ok v w'):(execOp a.eval o).run P w=.ok (.value v) w':=by
 have e1:(#[s,x]:Array Operand).map a.eval=#[a.eval s,a.eval x]:=by simp
 simp only[execOp,ho,resolve,e1,Sem.run_bind,Sem.run_pure,Result.andThen_ok,invoke,builtin];show((Builtin.copy_ #[t,t'] o.type #[a.eval s,a.eval x]).run P w).andThen _=_;rw[h];rfl
theorem adW {E:Env}(hE:kQ P E.ty){o:Oper}{args:Array Operand}{ts:Array TypeId}(ho:o.op=.call {callee:=.builtin .copy,args,argTypes:=ts})(h:qo C st a w){K:AS->aA R}(hk:TE E o ts.toList args.toList st K=some r):oK P C o a w K r:=by
 obtain⟨g,hg⟩:=h;unfold TE at hk;split at hk;rename_i t t' ep rt tg lo e xs s wx gN;obtain⟨x,y,rfl,hx,hy⟩:=Sn gN;have et:ts=#[t,t']:=by apply fY;simpa using wx
 subst et;split at hk;rename_i tg' e' ys jk;split at hk;rename_i hee;subst hee;split at hk;rename_i hc;obtain⟨rfl,hT,hT',BG,rfl⟩:=hc;simp only at hk;have xI:=hg.rd x;rw[hx]at xI;have hxc:=fN xI;have Ue:=hg.rd y;rw[hy]at Ue;have hsv:=(fN Ue).1;obtain⟨te,hu,⟨⟨inf,z,Fu,wv,_⟩,_⟩⟩:=Ie hE hT;have atp:inf.size=1:=wv;obtain⟨v0,f2,fE,Hn,B4,tt⟩:=hg.Wx rt (by simp) jk;obtain⟨_,_,⟨o1,n1,k1,hv1,MZ⟩,Yc⟩:=hxc;obtain⟨K6,Yc⟩:=Yc BG;have hm:(s.take xs.length).length=Nat.min s.length xs.length:=by simp[Nat.min_comm]
 have hzl:(dW (s.take xs.length)).length=Nat.min s.length xs.length:=by rw[dW,bX,hm]
 have EW:((ByteArray.mk s.toArray).extract 0 (Nat.min s.length xs.length)).data.map (λb=>Value.int .u8 b.toNat)=((dW (s.take xs.length)).map (Value.int .u8)).toArray:=by
  rw[extract_mk];simp only[fR,dW,List.map_map];have:s.take (Nat.min s.length xs.length)=s.take xs.length:=by show s.take (min s.length xs.length)=_;rcases Nat.le_total s.length xs.length with h|h;rw[ko h,bZ (bc _),bZ h];rw[Nat.min_eq_right h]
  rw[this];simp;rfl
 have hN:(Nat.min xs.length s.length:Nat)=Nat.min s.length xs.length:=Nat.min_comm _ _
 have fz:∀w',(match o1 with|some ad=>(storeCells ad ((dW (s.take xs.length)).map (Value.int .u8))).run P w=.ok () w'|none=>w'=w)->
  (execOp a.eval o).run P w=.ok (.value (.int .i64 (Nat.min xs.length s.length:Nat))) w':=by
  intro w' hw
  refine ad7 ho ?_
  rw[hv1,MZ,hsv,hN]
  simp only[Builtin.copy_]
  simp only[underlying,Sem.run_bind,run_program,hu,Result.andThen_ok,Sem.run_pure,List.getElem?_toArray,df,fS,Builtin.lenOf,sizeOf,typeInfo,Fu,Builtin.firstCells,AD,EW]
  cases o1 with
  |none=>simp only at hw;subst hw;simp[goInt]
  |some ad=>simp only at hw;simp[hw,goInt]
 have key:∀w',(match o1 with|some ad=>(storeCells ad ((dW (s.take xs.length)).map (Value.int .u8))).run P w=.ok () w'|none=>w'=w)->Fr (λb=>eQ (g.fK b)\/b∈f2) w w'->w'.heap.size=w.heap.size->
  fZ g.hw w' (.sl (.int .u8)) [v0] (FG ys lo.toNat (dW (s.take xs.length))) f2->oK P C o a w K r:=by
  intro w' hw km aer ix
  obtain⟨g',qn⟩:=tt w' g.hw (.sl (.own (some tg')) (.int .u8) (FG ys lo.toNat (dW (s.take xs.length)))) f2 (λc' hle T8 Hh=>⟨by rw[T8,Hh];exact ix,λt ht=>by have h1:=fE.2 t ht;exact⟨(hle.hdr t h1.1).1,by rw[(hle.hdr t h1.1).2];exact h1.2⟩⟩) Hn (λb hb=>⟨by rw[aer];exact(hg.ir b _ (B4 b hb)).1,.inl hb⟩) km (λ_ _ _ _ _=>rfl)
  exact⟨_,_,_,.inl (fz w' hw),⟨g',qn.quiet o.dst (av:=.one (.int .i64 (min xs.length s.length:Nat))) (oz (mi _ _ _))⟩,hk⟩
 have Ob:v0=g.hdr tg':=(fE.2 tg' rfl).2;have ix:=fE.1;by_cases hxs:xs=[]
 subst hxs;have hz:dW (s.take ([]:dm).length)=[]:=by simp[dW]
 rw[hz]at key;refine key w ?_ (Fr.refl _ _) rfl (by rw[afu];exact ix);cases o1 with|none=>rfl|some ad=>simp[storeCells]
 rcases Yc with rfl|⟨n,b,o0,len,cap,k2,hlo,OV,hle,hvx⟩;exact absurd rfl hxs;have OV:g.hdr tg'=.slice (some ⟨b,o0,none⟩) len cap:=OV;rw[hv1]at hvx;simp only[Value.slice.injEq,CT.size,mF]at hvx;obtain⟨rfl,_,_⟩:=hvx;obtain⟨u,hu',hO⟩:=ix;simp at hu';subst hu';rw[OV]at Ob;have hxl:xs.length≠0:=λh=>hxs (cb h);rcases hO with⟨⟨ad,rfl⟩,rfl,rfl⟩|⟨b2,o2,aav,arr,T,fr,fps,rfl,hb,vx,hs,hc,hh,rfl,hl,hr⟩;simp only[Value.slice.injEq]at Ob;omega;have hb:w.heap[b2]?=some (.cells arr T fr):=hb;simp only[Value.slice.injEq,br,Addr.mk.injEq]at Ob;obtain⟨⟨rfl,rfl,_⟩,hyl,rfl⟩:=Ob;simp only[CT.size,mF]at hs hh hr;have hh:g.hw b2=o2+ys.length:=hh;have asK:lo.toNat=n:=by omega
 have atn:Nat.min s.length xs.length<=xs.length:=Nat.min_le_right _ _;have iW:n+(dW (s.take xs.length)).length<=ys.length:=by rw[hzl];omega
 have akT:o2+n+((dW (s.take xs.length)).map (Value.int .u8)).length<=arr.size:=by rw[bX];omega
 have mI:=yW P b2 (o2+n) T fr ((dW (s.take xs.length)).map (Value.int .u8)) 0 w arr hb vx (by simpa using akT) (by simp[Value.oneCell']);simp only[eT]at mI;have Jw:=nR hb;refine key _ mI ⟨rfl,rfl,rfl,by rw[nz];exact bc _,λc _ hc=>oG (λe=>hc (.inr (by simp[e])))⟩ (nz ..) ?_;rw[asK];have hlen:=Wr iW;refine⟨_,rfl,.inr ⟨b2,o2,aav,_,T,fr,fps,by rw[hlen],Ac Jw,λj hj=>vx j (by rwa[jR]at hj),by rw[jR];simpa[CT.size]using hs,by rw[hlen];exact hc,by rw[hlen];simpa[CT.size]using hh,rfl,by rw[hlen];exact hl,?_⟩⟩;intro i q f hq hf;simp only[CT.size,mF];have SS:i<ys.length:=by have:=(aD.1 hq).1;omega
 have hold:=hr i ys[i] f (ay SS) hf;refine⟨?_,hold.2⟩;have Fq:(fP arr (o2+n) ((dW (s.take xs.length)).map (Value.int .u8))).toList[o2+i]?=some (.int .u8 q):=by
  rw[Bo akT];rw[aft iW]at hq;simp only[bX];by_cases zw:n<=i/\i<n+(dW (s.take xs.length)).length;rw[aI zw]at hq;rw[zip,show o2+i-(o2+n)=i-n by omega,List.getElem?_map,hq];rfl;rw[aK zw]at hq;rw[lH];have h1:=hold.1;have h2:((arr.toList.drop (o2+i)).take 1)[0]?=some (.int .u8 ys[i]):=by rw[h1];rfl
  rw[kK]at h2;simp only[Nat.zero_lt_one,cL,eT]at h2;rw[ay SS]at hq;simp at hq;rw[h2,hq]
 have iA:o2+i<(fP arr (o2+n) ((dW (s.take xs.length)).map (Value.int .u8))).toList.length:=(aD.1 Fq).1;rw[cr iA];have:=(aD.1 Fq).2;simp[this];cases hk;cases hk;cases hk;cases hk
def acE (P:Program)(l:ax ((Nat×Nat)×Nat)):Prop:=∀S f T,YE l S f=some T->∀fs fd,P.underlying S=some (.struct fs)->fs[f]?=some fd->fd.type=T
def ftB (P:Program)(x:(Nat×Nat)×Nat):Bool:=
 match P.underlying x.1.1 with
 |some (.struct fs)=>match fs[x.1.2]? with|some fd=>fd.type==x.2|none=>true
 |_=>true
theorem YF {P:Program}:∀{l:ax ((Nat×Nat)×Nat)},(l.all (ftB P))=true->acE P l
 |[],_,S,f,T,h=>by simp[YE]at h
 |((u,k),U)::l,hl,S,f,T,h=>by
  simp only[cx,ah]at hl;simp only[YE]at h;cases hu:(u==S&&k==f)with
  |true=>rw[hu]at h;simp at h hu;obtain⟨rfl,rfl⟩:=hu;subst h;intro fs fd hS hf;have:=hl.1;simp only[ftB,hS,hf]at this;simpa using this
  |false=>rw[hu]at h;exact YF hl.2 S f T h
theorem aiv {T:TypeId}{sh:Shape}(hT:agI P T sh)(cs:jI)(off:Nat)(iW:off+sh.ct.size<=cs.length): ∃v,(part T cs.toArray off).run P w=.ok v w/\Cut sh.agg v ((cs.drop off).take sh.ct.size):=by
 obtain⟨i,z,hi,wv,_⟩:=hT.elem.info;cases Pt:sh.agg with
 |true=>obtain⟨fs,hu,_⟩:=hT.agg Pt;refine⟨.agg (cs.toArray.extract off (off+sh.ct.size)),?_,?_⟩;simp only[part,isAgg,sizeOf,typeInfo,underlying,Sem.run_bind,run_program,hu,hi,Result.andThen_ok,Sem.run_pure,wv,cL,Sem.run_ite];simp only[Cut,cL];congr 1;apply fY;simp[List.take_drop]
 |false=>
  have h1:sh.ct.size=1:=by cases N8:sh.ct with|pair a b=>have:=hT.pair a b N8;rw[Pt]at this;cases this|_=>rfl
  rw[h1]at iW⊢;have iA:off<cs.length:=by omega
  refine⟨cs[off],?_,?_⟩;have hnu:∃d,P.underlying T=some d/\(match d with| .struct _| .array _ _=>True|_=>False)=False:=by cases N8:sh.ct with|pair a b=>have:=hT.pair a b N8;rw[Pt]at this;cases this|int k=>exact⟨_,hT.int k N8 Pt,rfl⟩|bool=>exact⟨_,hT.bool N8 Pt,rfl⟩|str=>exact⟨_,hT.str N8 Pt,rfl⟩|sl e=>obtain⟨te,hu,_⟩:=hT.sl e N8 Pt;exact⟨_,hu,rfl⟩
  obtain⟨d,hu,hd⟩:=hnu;simp only[part,isAgg,underlying,Sem.run_bind,run_program,hu,Result.andThen_ok,Sem.run_pure];cases d<;>simp at hd<;>simp[ay iA];simp only[Cut,bm,cG];rw[cr iA];rfl
theorem XE {E:Env}(hE:kQ P E.ty)(hF:acE P E.fts){o:Oper}{S:TypeId}{t f:Nat}(ho:o.op=.field S (.tmp t) f)(h:qo C st a w){K:AS->aA R}(hk:IG E o S t f st K=some r):oK P C o a w K r:=by
 obtain⟨g,h⟩:=h;unfold IG at hk;split at hk;rename_i ct lE cs T hS hg hT;split at hk;rename_i fo n sh SV hsh;split at hk;rename_i hc;obtain⟨rfl,hcl,iW⟩:=hc;obtain⟨fs,hu,KH⟩:=(hE S _ hS).agg rfl;rw[eV]at SV;obtain⟨fd,hfd,amU,hn,i,hi,wv⟩:=KH f fo _ SV;have hty:=hF S f T hT fs fd hu hfd;have htl:t<st.slots.length:=by
  rcases ca t st.slots.length with iA|B0;exact iA;have:st.get t=.bot:=by simp[AS.get,eV,cd B0]
  rw[this]at hg;cases hg
 obtain⟨fp,hr,HN,hl⟩:=h.slot t;rw[hg]at hr;obtain⟨vs,gb,hr⟩:=hr;have hlen:=hr.length;obtain⟨v,Yc,amF⟩:=aiv (P:=P) (w:=w) (hE T sh hsh) vs fo (by omega);have fz:(execOp a.eval o).run P w=.ok (.value v) w:=by
  have he:a.eval (.tmp t)=.agg vs.toArray:=by simp only[Cut,cL]at gb;exact gb
  simp only[execOp,ho,he,Instr.field,underlying,Sem.run_bind,run_program,hu,Result.andThen_ok,Sem.run_pure,hfd,asAgg,amU,hty,Yc]
 obtain⟨f1,f2,f3,rfl,r1,r2,r3⟩:=hr.mid fo sh.ct.size;have V2:=HN;rw[aG]at V2;have n1:=aN.1 V2;have n2:=aN.1 n1.2.1;let SI:AV:=.val true (fC cs fo (bh st.ep ((cs.drop fo).take sh.ct.size)));let cp:AS:=st.put (some t) SI;let g':Gh:={g with fK:=λb=>if b∈f2 then some (.hand 0) else g.fK b}
 have hle:(dy C g st w).Le (dy C g' cp w):=by have:= @Wf C g st w (some t) SI;exact⟨this.A,this.hdr,this.Xw,this.ep,this.LQ,this.afH⟩
 have hlk:∀b y,g.fK b=some y->b∉f2->g'.fK b=some y:=by intro b y hb hm;show(if b∈f2 then _ else _)=_;rw[aK hm];exact hb
 have OW:∀b y,y≠ .slot t->g.fK b=some y->b∉f2:=λb y hy hb hm=>hy (by have:=hl b (by simp[hm]);rw[hb]at this;simpa using this);have asX:bW (dy C g' cp w) vs (fC cs fo (bh st.ep ((cs.drop fo).take sh.ct.size))) (f1++f3):=by
  have hbl:(bh st.ep ((cs.drop fo).take sh.ct.size)).length=sh.ct.size:=by simp[bh];omega
  have e:vs=vs.take fo++(vs.drop fo).take sh.ct.size++vs.drop (fo+sh.ct.size):=by rw[aG,<-fa,cg,cg]
  have:=bW.append (bW.append (r1.mono hle (λb _=>⟨rfl,rfl⟩)) ((r2.bh).mono hle (by simp))) (r3.mono hle (λb _=>⟨rfl,rfl⟩));rw[<-e,bg]at this;rw[fC,hbl];exact this
 have alN:eZ C g' cp a w [(v,.val sh.agg ((cs.drop fo).take sh.ct.size))]:=by
  refine h.step (λy=>y≠ .slot t) hle h.defers (by show _=(st.put (some t) SI).slots.length;rw[gU,aL];exact h.size) (by show(st.put (some t) SI).boxes.length=(st.put (some t) SI).slots.length;rw[mx,gU,aL];exact h.bsize) h.frame ?_ (λb y hy hb=>⟨hlk b y hb (OW b y hy hb),rfl,rfl⟩) ?_ ?_ ?_ (.inl ⟨by simp,Na⟩);intro b y hy;have Ud:(if b∈f2 then some (kX.hand 0) else g.fK b)=some y:=hy;by_cases hm:b∈f2;exact h.ir b _ (hl b (by simp[hm]));rw[aK hm]at Ud;exact h.ir b y Ud;intro j bv hj;have hj':(st.slots.set t SI)[j]?=some bv:=by rw[<-gU];exact hj
  by_cases hjt:j=t;subst hjt;rw[bO]at hj';simp only[cL,htl]at hj';simp at hj';subst hj';refine .inr ⟨f1++f3,⟨vs,gb,asX⟩,?_,?_⟩;refine aN.2 ⟨n1.1,n2.2.1,?_⟩;rintro b hb c hc rfl;exact n1.2.2 b hb b (bj _ hc) rfl;intro b hb;refine hlk b _ (hl b (by rcases aB.1 hb with k|k<;>simp[k])) (λhm=>?_);rcases aB.1 hb with k|k;exact n1.2.2 b k b (aU _ hm) rfl;exact n2.2.2 b hm b k rfl;rw[aM (cE hjt)]at hj';exact .inl ⟨by simpa using hjt,hj',rfl⟩;intro s tr hb;have iq:st.boxes[s]?=some (some tr):=by rw[<-mx (d:=some t) (v:=SI)];exact hb
  exact .inl ⟨by simp,iq,rfl⟩;intro k u bv HM;cases k with
  |zero=>simp only[df,br,Prod.mk.injEq]at HM;obtain⟨rfl,rfl⟩:=HM;refine .inr ⟨f2,⟨_,amF,r2.mono hle (λb _=>⟨rfl,rfl⟩)⟩,n2.1,λb hb=>?_⟩;show(if b∈f2 then _ else _)=_;rw[aI hb]
  |succ k=>simp at HM
 exact⟨v,w,_,.inl fz,eZ.Gy alN o.dst,hk⟩;cases hk;cases hk;cases hk
end Go.Dn
