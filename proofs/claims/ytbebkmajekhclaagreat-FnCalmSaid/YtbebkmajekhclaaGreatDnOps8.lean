import Derived.Test.YtbebkmajekhclaaGreatDnOps7
/- Part 8: copy, and fields of structs in slots. -/
namespace Go.Dn
open Go.RowKit
variable {P:Program} {C:Ctx} {st:AS} {a:Act} {w:World} {R:Type} {r:R}
variable {lo:Nat} {ys:cc}
theorem Xk {zs:cc}(h:lo+zs.length<=ys.length):(EN ys lo zs).length=ys.length:=by simp[EN];omega
theorem ah9 {zs:cc}(h:lo+zs.length<=ys.length)(j:Nat):(EN ys lo zs)[j]?=if lo<=j/\j<lo+zs.length then zs[j-lo]? else ys[j]?:=by
 unfold EN;have hl:(ys.take lo).length=lo:=by simp;omega
 by_cases h1:j<lo;rw[lI,bp (by omega),eG,aH h1];rw[bw (by omega),hl];by_cases h2:j<lo+zs.length;rw[zip,bp (by omega)];rw[lI,bw (by omega),bR];congr 1;omega
theorem aia:EN ys lo []=ys:=by simp[EN]
theorem agJ {o:Oper}{s x:Operand}{t t':TypeId}(ho:o.op=.call {callee:=.builtin .copy,args:=#[s,x],argTypes:=#[t,t']}){v:Value}{w':World}(h:(Builtin.copy_ #[t,t'] o.type #[a.eval s,a.eval x]).run P w=.ok v w'):(execOp a.eval o).run P w=.ok (.value v) w':=by
 have e1:(#[s,x]:Array Operand).map a.eval=#[a.eval s,a.eval x]:=by simp
 simp only[execOp,ho,resolve,e1,Sem.run_bind,Sem.run_pure,Result.andThen_ok,invoke,builtin];show((Builtin.copy_ #[t,t'] o.type #[a.eval s,a.eval x]).run P w).andThen _=_;rw[h];rfl
theorem agz {E:Env}(hE:kG P E.ty){o:Oper}{args:Array Operand}{ts:Array TypeId}(ho:o.op=.call {callee:=.builtin .copy,args,argTypes:=ts})(h:qe C st a w){K:AS->aB R}(hk:TO E o ts.toList args.toList st K=some r):ox P C o a w K r:=by
 obtain⟨g,hg⟩:=h;unfold TO at hk;split at hk;rename_i t t' ep rt tg lo e xs s vS ib;obtain⟨x,y,rfl,hx,hy⟩:=Su ib;have et:ts=#[t,t']:=by apply gj;simpa using vS
 subst et;split at hk;rename_i tg' e' ys jh;split at hk;rename_i hee;subst hee;split at hk;rename_i hc;obtain⟨rfl,hT,hT',AY,rfl⟩:=hc;simp only at hk;have xn:=hg.rd x;rw[hx]at xn;have hxc:=fH xn;have Un:=hg.rd y;rw[hy]at Un;have hsv:=(fH Un).1;obtain⟨te,hu,⟨⟨inf,z,Ez,wI,_⟩,_⟩⟩:=Hq hE hT;have ayg:inf.size=1:=wI;obtain⟨v0,f2,fZ,EA,Cg,sM⟩:=hg.Xw rt (by simp) jh;obtain⟨_,_,⟨o1,n1,k1,hv1,J4⟩,Zo⟩:=hxc;obtain⟨OO,Zo⟩:=Zo AY;have hm:(s.take xs.length).length=Nat.min s.length xs.length:=by simp[Nat.min_comm]
 have hzl:(dJ (s.take xs.length)).length=Nat.min s.length xs.length:=by rw[dJ,bF,hm]
 have D6:((ByteArray.mk s.toArray).extract 0 (Nat.min s.length xs.length)).data.map (λb=>Value.int .u8 b.toNat)=((dJ (s.take xs.length)).map (Value.int .u8)).toArray:=by
  rw[extract_mk];simp only[fQ,dJ,List.map_map];have:s.take (Nat.min s.length xs.length)=s.take xs.length:=by show s.take (min s.length xs.length)=_;rcases Nat.le_total s.length xs.length with h|h;rw[jk h,ca (bc _),ca h];rw[Nat.min_eq_right h]
  rw[this];simp;rfl
 have hN:(Nat.min xs.length s.length:Nat)=Nat.min s.length xs.length:=Nat.min_comm _ _
 have fD:∀w',(match o1 with|some ad=>(storeCells ad ((dJ (s.take xs.length)).map (Value.int .u8))).run P w=.ok () w'|none=>w'=w)->
  (execOp a.eval o).run P w=.ok (.value (.int .i64 (Nat.min xs.length s.length:Nat))) w':=by
  intro w' hw
  refine agJ ho ?_
  rw[hv1,J4,hsv,hN]
  simp only[Builtin.copy_]
  simp only[underlying,Sem.run_bind,run_program,hu,Result.andThen_ok,Sem.run_pure,List.getElem?_toArray,cM,fW,Builtin.lenOf,sizeOf,typeInfo,Ez,Builtin.firstCells,zW,D6]
  cases o1 with
  |none=>simp only at hw;subst hw;simp[goInt]
  |some ad=>simp only at hw;simp[hw,goInt]
 have key:∀w',(match o1 with|some ad=>(storeCells ad ((dJ (s.take xs.length)).map (Value.int .u8))).run P w=.ok () w'|none=>w'=w)->Fr (λb=>eQ (g.fE b)\/b∈f2) w w'->w'.heap.size=w.heap.size->
  gA g.hw w' (.sl (.int .u8)) [v0] (EN ys lo.toNat (dJ (s.take xs.length))) f2->ox P C o a w K r:=by
  intro w' hw jZ ag7 ja
  obtain⟨g',qb⟩:=sM w' g.hw (.sl (.own (some tg')) (.int .u8) (EN ys lo.toNat (dJ (s.take xs.length)))) f2 (λc' hle XV It=>⟨by rw[XV,It];exact ja,λt ht=>by have h1:=fZ.2 t ht;exact⟨(hle.hdr t h1.1).1,by rw[(hle.hdr t h1.1).2];exact h1.2⟩⟩) EA (λb hb=>⟨by rw[ag7];exact(hg.im b _ (Cg b hb)).1,.inl hb⟩) jZ (λ_ _ _ _ _=>rfl)
  exact⟨_,_,_,.inl (fD w' hw),⟨g',qb.quiet o.dst (av:=.one (.int .i64 (min xs.length s.length:Nat))) (oo (lU _ _ _))⟩,hk⟩
 have QT:v0=g.hdr tg':=(fZ.2 tg' rfl).2;have ja:=fZ.1;by_cases hxs:xs=[]
 subst hxs;have hz:dJ (s.take ([]:cc).length)=[]:=by simp[dJ]
 rw[hz]at key;refine key w ?_ (Fr.refl _ _) rfl (by rw[aia];exact ja);cases o1 with|none=>rfl|some ad=>simp[storeCells]
 rcases Zo with rfl|⟨n,b,o0,len,cap,k2,hlo,S2,hle,hvx⟩;exact absurd rfl hxs;have S2:g.hdr tg'=.slice (some ⟨b,o0,none⟩) len cap:=S2;rw[hv1]at hvx;simp only[Value.slice.injEq,CT.size,oS]at hvx;obtain⟨rfl,_,_⟩:=hvx;obtain⟨u,WQ,hO⟩:=ja;simp at WQ;subst WQ;rw[S2]at QT;have hxl:xs.length≠0:=λh=>hxs (cr h);rcases hO with⟨⟨ad,rfl⟩,rfl,rfl⟩|⟨b2,o2,abV,arr,T,fr,fps,rfl,hb,uR,hs,hc,hh,rfl,hl,hr⟩;simp only[Value.slice.injEq]at QT;omega;have hb:w.heap[b2]?=some (.cells arr T fr):=hb;simp only[Value.slice.injEq,bu,Addr.mk.injEq]at QT;obtain⟨⟨rfl,rfl,_⟩,hyl,rfl⟩:=QT;simp only[CT.size,oS]at hs hh hr;have hh:g.hw b2=o2+ys.length:=hh;have axp:lo.toNat=n:=by omega
 have aye:Nat.min s.length xs.length<=xs.length:=Nat.min_le_right _ _;have iO:n+(dJ (s.take xs.length)).length<=ys.length:=by rw[hzl];omega
 have ao0:o2+n+((dJ (s.take xs.length)).map (Value.int .u8)).length<=arr.size:=by rw[bF];omega
 have ow:=yD P b2 (o2+n) T fr ((dJ (s.take xs.length)).map (Value.int .u8)) 0 w arr hb uR (by simpa using ao0) (by simp[Value.oneCell']);simp only[dX]at ow;have HX:=nU hb;refine key _ ow ⟨rfl,rfl,rfl,by rw[nu];exact bc _,λc _ hc=>ou (λe=>hc (.inr (by simp[e])))⟩ (nu ..) ?_;rw[axp];have hlen:=Xk iO;refine⟨_,rfl,.inr ⟨b2,o2,abV,_,T,fr,fps,by rw[hlen],zB HX,λj hj=>uR j (by rwa[jD]at hj),by rw[jD];simpa[CT.size]using hs,by rw[hlen];exact hc,by rw[hlen];simpa[CT.size]using hh,rfl,by rw[hlen];exact hl,?_⟩⟩;intro i q f hq hf;simp only[CT.size,oS];have Pd:i<ys.length:=by have:=(ay.1 hq).1;omega
 have hold:=hr i ys[i] f (al Pd) hf;refine⟨?_,hold.2⟩;have Ew:(fL arr (o2+n) ((dJ (s.take xs.length)).map (Value.int .u8))).toList[o2+i]?=some (.int .u8 q):=by
  rw[AD ao0];rw[ah9 iO]at hq;simp only[bF];by_cases uX:n<=i/\i<n+(dJ (s.take xs.length)).length;rw[aH uX]at hq;rw[zip,show o2+i-(o2+n)=i-n by omega,List.getElem?_map,hq];rfl;rw[aG uX]at hq;rw[lI];have h1:=hold.1;have h2:((arr.toList.drop (o2+i)).take 1)[0]?=some (.int .u8 ys[i]):=by rw[h1];rfl
  rw[kE]at h2;simp only[Nat.zero_lt_one,cw,dX]at h2;rw[al Pd]at hq;simp at hq;rw[h2,hq]
 have hG:o2+i<(fL arr (o2+n) ((dJ (s.take xs.length)).map (Value.int .u8))).toList.length:=(ay.1 Ew).1;rw[bW hG];have:=(ay.1 Ew).2;simp[this];cases hk;cases hk;cases hk;cases hk
def aeK (P:Program)(l:aw ((Nat×Nat)×Nat)):Prop:=∀S f T,aac l S f=some T->∀fs fd,P.underlying S=some (.struct fs)->fs[f]?=some fd->fd.type=T
def ftB (P:Program)(x:(Nat×Nat)×Nat):Bool:=
 match P.underlying x.1.1 with
 |some (.struct fs)=>match fs[x.1.2]? with|some fd=>fd.type==x.2|none=>true
 |_=>true
theorem aad {P:Program}:∀{l:aw ((Nat×Nat)×Nat)},(l.all (ftB P))=true->aeK P l
 |[],_,S,f,T,h=>by simp[aac]at h
 |((u,k),U)::l,hl,S,f,T,h=>by
  simp only[cz,ae]at hl;simp only[aac]at h;cases hu:(u==S&&k==f)with
  |true=>rw[hu]at h;simp at h hu;obtain⟨rfl,rfl⟩:=hu;subst h;intro fs fd hS hf;have:=hl.1;simp only[ftB,hS,hf]at this;simpa using this
  |false=>rw[hu]at h;exact aad hl.2 S f T h
theorem alN {T:TypeId}{sh:Shape}(hT:ajg P T sh)(cs:jJ)(off:Nat)(iO:off+sh.ct.size<=cs.length): ∃v,(part T cs.toArray off).run P w=.ok v w/\Cut sh.agg v ((cs.drop off).take sh.ct.size):=by
 obtain⟨i,z,hi,wI,_⟩:=hT.elem.info;cases Pb:sh.agg with
 |true=>obtain⟨fs,hu,_⟩:=hT.agg Pb;refine⟨.agg (cs.toArray.extract off (off+sh.ct.size)),?_,?_⟩;simp only[part,isAgg,sizeOf,typeInfo,underlying,Sem.run_bind,run_program,hu,hi,Result.andThen_ok,Sem.run_pure,wI,cw,Sem.run_ite];simp only[Cut,cw];congr 1;apply gj;simp[List.take_drop]
 |false=>
  have h1:sh.ct.size=1:=by cases NJ:sh.ct with|pair a b=>have:=hT.pair a b NJ;rw[Pb]at this;cases this|_=>rfl
  rw[h1]at iO⊢;have hG:off<cs.length:=by omega
  refine⟨cs[off],?_,?_⟩;have hnu:∃d,P.underlying T=some d/\(match d with| .struct _| .array _ _=>True|_=>False)=False:=by cases NJ:sh.ct with|pair a b=>have:=hT.pair a b NJ;rw[Pb]at this;cases this|int k=>exact⟨_,hT.int k NJ Pb,rfl⟩|bool=>exact⟨_,hT.bool NJ Pb,rfl⟩|str=>exact⟨_,hT.str NJ Pb,rfl⟩|sl e=>obtain⟨te,hu,_⟩:=hT.sl e NJ Pb;exact⟨_,hu,rfl⟩
  obtain⟨d,hu,hd⟩:=hnu;simp only[part,isAgg,underlying,Sem.run_bind,run_program,hu,Result.andThen_ok,Sem.run_pure];cases d<;>simp at hd<;>simp[al hG];simp only[Cut,bm,cC];rw[bW hG];rfl
theorem YB {E:Env}(hE:kG P E.ty)(hF:aeK P E.fts){o:Oper}{S:TypeId}{t f:Nat}(ho:o.op=.field S (.tmp t) f)(h:qe C st a w){K:AS->aB R}(hk:HM E o S t f st K=some r):ox P C o a w K r:=by
 obtain⟨g,h⟩:=h;unfold HM at hk;split at hk;rename_i ct lr cs T hS hg hT;split at hk;rename_i fo n sh S7 hsh;split at hk;rename_i hc;obtain⟨rfl,hcl,iO⟩:=hc;obtain⟨fs,hu,J1⟩:=(hE S _ hS).agg rfl;rw[eU]at S7;obtain⟨fd,hfd,asx,hn,i,hi,wI⟩:=J1 f fo _ S7;have hty:=hF S f T hT fs fd hu hfd;have htl:t<st.slots.length:=by
  rcases cg t st.slots.length with hG|CF;exact hG;have:st.get t=.bot:=by simp[AS.get,eU,bI CF]
  rw[this]at hg;cases hg
 obtain⟨fp,hr,HZ,hl⟩:=h.slot t;rw[hg]at hr;obtain⟨vs,gD,hr⟩:=hr;have hlen:=hr.length;obtain⟨v,Zo,asg⟩:=alN (P:=P) (w:=w) (hE T sh hsh) vs fo (by omega);have fD:(execOp a.eval o).run P w=.ok (.value v) w:=by
  have he:a.eval (.tmp t)=.agg vs.toArray:=by simp only[Cut,cw]at gD;exact gD
  simp only[execOp,ho,he,Instr.field,underlying,Sem.run_bind,run_program,hu,Result.andThen_ok,Sem.run_pure,hfd,asAgg,asx,hty,Zo]
 obtain⟨f1,f2,f3,rfl,r1,r2,r3⟩:=hr.mid fo sh.ct.size;have WM:=HZ;rw[aR]at WM;have n1:=aS.1 WM;have n2:=aS.1 n1.2.1;let SP:AV:=.val true (fu cs fo (bg st.ep ((cs.drop fo).take sh.ct.size)));let cj:AS:=st.put (some t) SP;let g':Gh:={g with fE:=λb=>if b∈f2 then some (.hand 0) else g.fE b}
 have hle:(dz C g st w).Le (dz C g' cj w):=by have:= @W9 C g st w (some t) SP;exact⟨this.A,this.hdr,this.Yj,this.ep,this.Lp,this.ain⟩
 have hlk:∀b y,g.fE b=some y->b∉f2->g'.fE b=some y:=by intro b y hb hm;show(if b∈f2 then _ else _)=_;rw[aG hm];exact hb
 have OP:∀b y,y≠ .slot t->g.fE b=some y->b∉f2:=λb y hy hb hm=>hy (by have:=hl b (by simp[hm]);rw[hb]at this;simpa using this);have axD:bV (dz C g' cj w) vs (fu cs fo (bg st.ep ((cs.drop fo).take sh.ct.size))) (f1++f3):=by
  have hbl:(bg st.ep ((cs.drop fo).take sh.ct.size)).length=sh.ct.size:=by simp[bg];omega
  have e:vs=vs.take fo++(vs.drop fo).take sh.ct.size++vs.drop (fo+sh.ct.size):=by rw[aR,<-fP,cR,cR]
  have:=bV.append (bV.append (r1.mono hle (λb _=>⟨rfl,rfl⟩)) ((r2.bg).mono hle (by simp))) (r3.mono hle (λb _=>⟨rfl,rfl⟩));rw[<-e,bD]at this;rw[fu,hbl];exact this
 have aqr:fb C g' cj a w [(v,.val sh.agg ((cs.drop fo).take sh.ct.size))]:=by
  refine h.step (λy=>y≠ .slot t) hle h.defers (by show _=(st.put (some t) SP).slots.length;rw[gV,az];exact h.size) (by show(st.put (some t) SP).boxes.length=(st.put (some t) SP).slots.length;rw[mj,gV,az];exact h.bsize) h.frame ?_ (λb y hy hb=>⟨hlk b y hb (OP b y hy hb),rfl,rfl⟩) ?_ ?_ ?_ (.inl ⟨by simp,Mz⟩);intro b y hy;have XW:(if b∈f2 then some (lz.hand 0) else g.fE b)=some y:=hy;by_cases hm:b∈f2;exact h.im b _ (hl b (by simp[hm]));rw[aG hm]at XW;exact h.im b y XW;intro j bv hj;have hj':(st.slots.set t SP)[j]?=some bv:=by rw[<-gV];exact hj
  by_cases hjt:j=t;subst hjt;rw[bJ]at hj';simp only[cw,htl]at hj';simp at hj';subst hj';refine .inr ⟨f1++f3,⟨vs,gD,axD⟩,?_,?_⟩;refine aS.2 ⟨n1.1,n2.2.1,?_⟩;rintro b hb c hc rfl;exact n1.2.2 b hb b (bz _ hc) rfl;intro b hb;refine hlk b _ (hl b (by rcases aA.1 hb with k|k<;>simp[k])) (λhm=>?_);rcases aA.1 hb with k|k;exact n1.2.2 b k b (bH _ hm) rfl;exact n2.2.2 b hm b k rfl;rw[aE (cl hjt)]at hj';exact .inl ⟨by simpa using hjt,hj',rfl⟩;intro s sU hb;have iy:st.boxes[s]?=some (some sU):=by rw[<-mj (d:=some t) (v:=SP)];exact hb
  exact .inl ⟨by simp,iy,rfl⟩;intro k u bv GQ;cases k with
  |zero=>simp only[cM,bu,Prod.mk.injEq]at GQ;obtain⟨rfl,rfl⟩:=GQ;refine .inr ⟨f2,⟨_,asg,r2.mono hle (λb _=>⟨rfl,rfl⟩)⟩,n2.1,λb hb=>?_⟩;show(if b∈f2 then _ else _)=_;rw[aH hb]
  |succ k=>simp at GQ
 exact⟨v,w,_,.inl fD,fb.Fv aqr o.dst,hk⟩;cases hk;cases hk;cases hk
end Go.Dn
