import Derived.Test.YtinkcmefgciifaaGreatDnOps7
/- Part 8: copy, and fields of structs in slots. -/
namespace Go.Dn
open Go.RowKit
variable {P:Program} {C:Ctx} {st:AS} {a:Act} {w:World} {R:Type} {r:R}
variable {lo:Nat} {ys:dA}
theorem UJ {zs:dA}(h:lo+zs.length<=ys.length):(DU ys lo zs).length=ys.length:=by simp[DU];omega
theorem aeC {zs:dA}(h:lo+zs.length<=ys.length)(j:Nat):(DU ys lo zs)[j]?=if lo<=j/\j<lo+zs.length then zs[j-lo]? else ys[j]?:=by
 unfold DU;have hl:(ys.take lo).length=lo:=by simp;omega
 by_cases h1:j<lo;rw[kz,bu (by omega),eD,aJ h1];rw[bE (by omega),hl];by_cases h2:j<lo+zs.length;rw[zip,bu (by omega)];rw[kz,bE (by omega),bP];congr 1;omega
theorem aeD:DU ys lo []=ys:=by simp[DU]
theorem adf {o:Oper}{s x:Operand}{t t':TypeId}(ho:o.op=.call {callee:=.builtin .copy,args:=#[s,x],argTypes:=#[t,t']}){v:Value}{w':World}(h:(Builtin.copy_ #[t,t'] o.type #[a.eval s,a.eval x]).run P w=.ok v w'):(execOp a.eval o).run P w=.ok (.value v) w':=by
 have e1:(#[s,x]:Array Operand).map a.eval=#[a.eval s,a.eval x]:=by simp
 simp only[execOp,ho,resolve,e1,Sem.run_bind,Sem.run_pure,Result.andThen_ok,invoke,builtin];show((Builtin.copy_ #[t,t'] o.type #[a.eval s,a.eval x]).run P w).andThen _=_;rw[h];rfl
theorem ac4 {E:Env}(hE:kJ P E.ty){o:Oper}{args:Array Operand}{ts:Array TypeId}(ho:o.op=.call {callee:=.builtin .copy,args,argTypes:=ts})(h:pT C st a w){K:AS->aC R}(hk:RJ E o ts.toList args.toList st K=some r):ox P C o a w K r:=by
 obtain⟨g,hg⟩:=h;unfold RJ at hk;split at hk;rename_i t t' ep rt tg lo e xs s uW il;obtain⟨x,y,rfl,hx,hy⟩:=Qy il;have et:ts=#[t,t']:=by apply gj;simpa using uW
 subst et;split at hk;rename_i tg' e' ys jq;split at hk;rename_i hee;subst hee;split at hk;rename_i hc;obtain⟨rfl,hT,hT',Ae,rfl⟩:=hc;simp only at hk;have wu:=hg.rd x;rw[hx]at wu;have hxc:=fO wu;have Sb:=hg.rd y;rw[hy]at Sb;have hsv:=(fO Sb).1;obtain⟨te,hu,⟨⟨inf,z,DJ,wq,_⟩,_⟩⟩:=Gq hE hT;have atn:inf.size=1:=wq;obtain⟨v0,f2,ga,Fv,BD,qb⟩:=hg.US rt (by simp) jq;obtain⟨_,_,⟨o1,n1,k1,hv1,KP⟩,WA⟩:=hxc;obtain⟨M0,WA⟩:=WA Ae;have hm:(s.take xs.length).length=Nat.min s.length xs.length:=by simp[Nat.min_comm]
 have hzl:(dQ (s.take xs.length)).length=Nat.min s.length xs.length:=by rw[dQ,cz,hm]
 have C8:((ByteArray.mk s.toArray).extract 0 (Nat.min s.length xs.length)).data.map (λb=>Value.int .u8 b.toNat)=((dQ (s.take xs.length)).map (Value.int .u8)).toArray:=by
  rw[extract_mk];simp only[eI,dQ,List.map_map];have:s.take (Nat.min s.length xs.length)=s.take xs.length:=by show s.take (min s.length xs.length)=_;rcases Nat.le_total s.length xs.length with h|h;rw[jv h,bW (aX _),bW h];rw[Nat.min_eq_right h]
  rw[this];simp;rfl
 have hN:(Nat.min xs.length s.length:Nat)=Nat.min s.length xs.length:=Nat.min_comm _ _
 have fG:∀w',(match o1 with|some ad=>(storeCells ad ((dQ (s.take xs.length)).map (Value.int .u8))).run P w=.ok () w'|none=>w'=w)->
  (execOp a.eval o).run P w=.ok (.value (.int .i64 (Nat.min xs.length s.length:Nat))) w':=by
  intro w' hw
  refine adf ho ?_
  rw[hv1,KP,hsv,hN]
  simp only[Builtin.copy_]
  simp only[underlying,Sem.run_bind,run_program,hu,Result.andThen_ok,Sem.run_pure,List.getElem?_toArray,cR,fW,Builtin.lenOf,sizeOf,typeInfo,DJ,Builtin.firstCells,yV,C8]
  cases o1 with
  |none=>simp only at hw;subst hw;simp[goInt]
  |some ad=>simp only at hw;simp[hw,goInt]
 have key:∀w',(match o1 with|some ad=>(storeCells ad ((dQ (s.take xs.length)).map (Value.int .u8))).run P w=.ok () w'|none=>w'=w)->Fr (λb=>eM (g.fL b)\/b∈f2) w w'->w'.heap.size=w.heap.size->
  gG g.hw w' (.sl (.int .u8)) [v0] (DU ys lo.toNat (dQ (s.take xs.length))) f2->ox P C o a w K r:=by
  intro w' hw kB adz jl
  obtain⟨g',pQ⟩:=qb w' g.hw (.sl (.own (some tg')) (.int .u8) (DU ys lo.toNat (dQ (s.take xs.length)))) f2 (λc' hle Vr Hl=>⟨by rw[Vr,Hl];exact jl,λt ht=>by have h1:=ga.2 t ht;exact⟨(hle.hdr t h1.1).1,by rw[(hle.hdr t h1.1).2];exact h1.2⟩⟩) Fv (λb hb=>⟨by rw[adz];exact(hg.iw b _ (BD b hb)).1,.inl hb⟩) kB (λ_ _ _ _ _=>rfl)
  exact⟨_,_,_,.inl (fG w' hw),⟨g',pQ.quiet o.dst (av:=.one (.int .i64 (min xs.length s.length:Nat))) (oc (ma _ _ _))⟩,hk⟩
 have O4:v0=g.hdr tg':=(ga.2 tg' rfl).2;have jl:=ga.1;by_cases hxs:xs=[]
 subst hxs;have hz:dQ (s.take ([]:dA).length)=[]:=by simp[dQ]
 rw[hz]at key;refine key w ?_ (Fr.refl _ _) rfl (by rw[aeD];exact jl);cases o1 with|none=>rfl|some ad=>simp[storeCells]
 rcases WA with rfl|⟨n,b,o0,len,cap,k2,hlo,QZ,hle,hvx⟩;exact absurd rfl hxs;have QZ:g.hdr tg'=.slice (some ⟨b,o0,none⟩) len cap:=QZ;rw[hv1]at hvx;simp only[Value.slice.injEq,CT.size,oQ]at hvx;obtain⟨rfl,_,_⟩:=hvx;obtain⟨u,Uq,hO⟩:=jl;simp at Uq;subst Uq;rw[QZ]at O4;have hxl:xs.length≠0:=λh=>hxs (cp h);rcases hO with⟨⟨ad,rfl⟩,rfl,rfl⟩|⟨b2,o2,Zf,arr,T,fr,fps,rfl,hb,uj,hs,hc,hh,rfl,hl,hr⟩;simp only[Value.slice.injEq]at O4;omega;have hb:w.heap[b2]?=some (.cells arr T fr):=hb;simp only[Value.slice.injEq,bw,Addr.mk.injEq]at O4;obtain⟨⟨rfl,rfl,_⟩,hyl,rfl⟩:=O4;simp only[CT.size,oQ]at hs hh hr;have hh:g.hw b2=o2+ys.length:=hh;have asv:lo.toNat=n:=by omega
 have atl:Nat.min s.length xs.length<=xs.length:=Nat.min_le_right _ _;have iW:n+(dQ (s.take xs.length)).length<=ys.length:=by rw[hzl];omega
 have akS:o2+n+((dQ (s.take xs.length)).map (Value.int .u8)).length<=arr.size:=by rw[cz];omega
 have oB:=xM P b2 (o2+n) T fr ((dQ (s.take xs.length)).map (Value.int .u8)) 0 w arr hb uj (by simpa using akS) (by simp[Value.oneCell']);simp only[eE]at oB;have Hv:=nN hb;refine key _ oB ⟨rfl,rfl,rfl,by rw[nk];exact aX _,λc _ hc=>oq (λe=>hc (.inr (by simp[e])))⟩ (nk ..) ?_;rw[asv];have hlen:=UJ iW;refine⟨_,rfl,.inr ⟨b2,o2,Zf,_,T,fr,fps,by rw[hlen],yx Hv,λj hj=>uj j (by rwa[jN]at hj),by rw[jN];simpa[CT.size]using hs,by rw[hlen];exact hc,by rw[hlen];simpa[CT.size]using hh,rfl,by rw[hlen];exact hl,?_⟩⟩;intro i q f hq hf;simp only[CT.size,oQ];have Q0:i<ys.length:=by have:=(aB.1 hq).1;omega
 have hold:=hr i ys[i] f (aq Q0) hf;refine⟨?_,hold.2⟩;have DD:(fQ arr (o2+n) ((dQ (s.take xs.length)).map (Value.int .u8))).toList[o2+i]?=some (.int .u8 q):=by
  rw[zK akS];rw[aeC iW]at hq;simp only[cz];by_cases ux:n<=i/\i<n+(dQ (s.take xs.length)).length;rw[aJ ux]at hq;rw[zip,show o2+i-(o2+n)=i-n by omega,fA,hq];rfl;rw[aI ux]at hq;rw[kz];have h1:=hold.1;have h2:((arr.toList.drop (o2+i)).take 1)[0]?=some (.int .u8 ys[i]):=by rw[h1];rfl
  rw[kE]at h2;simp only[Nat.zero_lt_one,cr,eE]at h2;rw[aq Q0]at hq;simp at hq;rw[h2,hq]
 have iz:o2+i<(fQ arr (o2+n) ((dQ (s.take xs.length)).map (Value.int .u8))).toList.length:=(aB.1 DD).1;rw[bV iz];have:=(aB.1 DD).2;simp[this];cases hk;cases hk;cases hk;cases hk
def abF (P:Program)(l:az ((Nat×Nat)×Nat)):Prop:=∀S f T,Xe l S f=some T->∀fs fd,P.underlying S=some (.struct fs)->fs[f]?=some fd->fd.type=T
def ftB (P:Program)(x:(Nat×Nat)×Nat):Bool:=
 match P.underlying x.1.1 with
 |some (.struct fs)=>match fs[x.1.2]? with|some fd=>fd.type==x.2|none=>true
 |_=>true
theorem Xf {P:Program}:∀{l:az ((Nat×Nat)×Nat)},(l.all (ftB P))=true->abF P l
 |[],_,S,f,T,h=>by simp[Xe]at h
 |((u,k),U)::l,hl,S,f,T,h=>by
  simp only[cw,ae]at hl;simp only[Xe]at h;cases hu:(u==S&&k==f)with
  |true=>rw[hu]at h;simp at h hu;obtain⟨rfl,rfl⟩:=hu;subst h;intro fs fd hS hf;have:=hl.1;simp only[ftB,hS,hf]at this;simpa using this
  |false=>rw[hu]at h;exact Xf hl.2 S f T h
theorem ahX {T:TypeId}{sh:Shape}(hT:afG P T sh)(cs:jT)(off:Nat)(iW:off+sh.ct.size<=cs.length): ∃v,(part T cs.toArray off).run P w=.ok v w/\Cut sh.agg v ((cs.drop off).take sh.ct.size):=by
 obtain⟨i,z,hi,wq,_⟩:=hT.elem.info;cases Nt:sh.agg with
 |true=>obtain⟨fs,hu,_⟩:=hT.agg Nt;refine⟨.agg (cs.toArray.extract off (off+sh.ct.size)),?_,?_⟩;simp only[part,isAgg,sizeOf,typeInfo,underlying,Sem.run_bind,run_program,hu,hi,Result.andThen_ok,Sem.run_pure,wq,cr,Sem.run_ite];simp only[Cut,cr];congr 1;apply gj;simp[List.take_drop]
 |false=>
  have h1:sh.ct.size=1:=by cases L6:sh.ct with|pair a b=>have:=hT.pair a b L6;rw[Nt]at this;cases this|_=>rfl
  rw[h1]at iW⊢;have iz:off<cs.length:=by omega
  refine⟨cs[off],?_,?_⟩;have hnu:∃d,P.underlying T=some d/\(match d with| .struct _| .array _ _=>True|_=>False)=False:=by cases L6:sh.ct with|pair a b=>have:=hT.pair a b L6;rw[Nt]at this;cases this|int k=>exact⟨_,hT.int k L6 Nt,rfl⟩|bool=>exact⟨_,hT.bool L6 Nt,rfl⟩|str=>exact⟨_,hT.str L6 Nt,rfl⟩|sl e=>obtain⟨te,hu,_⟩:=hT.sl e L6 Nt;exact⟨_,hu,rfl⟩
  obtain⟨d,hu,hd⟩:=hnu;simp only[part,isAgg,underlying,Sem.run_bind,run_program,hu,Result.andThen_ok,Sem.run_pure];cases d<;>simp at hd<;>simp[aq iz];simp only[Cut,bj,cy];rw[bV iz];rfl
theorem VZ {E:Env}(hE:kJ P E.ty)(hF:abF P E.fts){o:Oper}{S:TypeId}{t f:Nat}(ho:o.op=.field S (.tmp t) f)(h:pT C st a w){K:AS->aC R}(hk:GM E o S t f st K=some r):ox P C o a w K r:=by
 obtain⟨g,h⟩:=h;unfold GM at hk;split at hk;rename_i ct lD cs T hS hg hT;split at hk;rename_i fo n sh Q3 hsh;split at hk;rename_i hc;obtain⟨rfl,hcl,iW⟩:=hc;obtain⟨fs,hu,ID⟩:=(hE S _ hS).agg rfl;rw[eT]at Q3;obtain⟨fd,hfd,anX,hn,i,hi,wq⟩:=ID f fo _ Q3;have hty:=hF S f T hT fs fd hu hfd;have htl:t<st.slots.length:=by
  rcases ca t st.slots.length with iz|BC;exact iz;have:st.get t=.bot:=by simp[AS.get,eT,bS BC]
  rw[this]at hg;cases hg
 obtain⟨fp,hr,GW,hl⟩:=h.slot t;rw[hg]at hr;obtain⟨vs,gJ,hr⟩:=hr;have hlen:=hr.length;obtain⟨v,WA,anH⟩:=ahX (P:=P) (w:=w) (hE T sh hsh) vs fo (by omega);have fG:(execOp a.eval o).run P w=.ok (.value v) w:=by
  have he:a.eval (.tmp t)=.agg vs.toArray:=by simp only[Cut,cr]at gJ;exact gJ
  simp only[execOp,ho,he,Instr.field,underlying,Sem.run_bind,run_program,hu,Result.andThen_ok,Sem.run_pure,hfd,asAgg,anX,hty,WA]
 obtain⟨f1,f2,f3,rfl,r1,r2,r3⟩:=hr.mid fo sh.ct.size;have Un:=GW;rw[aE]at Un;have n1:=aO.1 Un;have n2:=aO.1 n1.2.1;let QO:AV:=.val true (fD cs fo (bg st.ep ((cs.drop fo).take sh.ct.size)));let cc:AS:=st.put (some t) QO;let g':Gh:={g with fL:=λb=>if b∈f2 then some (.hand 0) else g.fL b}
 have hle:(dp C g st w).Le (dp C g' cc w):=by have:= @UB C g st w (some t) QO;exact⟨this.A,this.hdr,this.VN,this.ep,this.JT,this.aeN⟩
 have YE:∀b y,g.fL b=some y->b∉f2->g'.fL b=some y:=by intro b y hb hm;show(if b∈f2 then _ else _)=_;rw[aI hm];exact hb
 have M4:∀b y,y≠ .slot t->g.fL b=some y->b∉f2:=λb y hy hb hm=>hy (by have:=hl b (by simp[hm]);rw[hb]at this;simpa using this);have asI:bT (dp C g' cc w) vs (fD cs fo (bg st.ep ((cs.drop fo).take sh.ct.size))) (f1++f3):=by
  have hbl:(bg st.ep ((cs.drop fo).take sh.ct.size)).length=sh.ct.size:=by simp[bg];omega
  have e:vs=vs.take fo++(vs.drop fo).take sh.ct.size++vs.drop (fo+sh.ct.size):=by rw[aE,<-eZ,cC,cC]
  have:=bT.append (bT.append (r1.mono hle (λb _=>⟨rfl,rfl⟩)) ((r2.bg).mono hle (by simp))) (r3.mono hle (λb _=>⟨rfl,rfl⟩));rw[<-e,bB]at this;rw[fD,hbl];exact this
 have al3:eX C g' cc a w [(v,.val sh.agg ((cs.drop fo).take sh.ct.size))]:=by
  refine h.step (λy=>y≠ .slot t) hle h.defers (by show _=(st.put (some t) QO).slots.length;rw[gW,aD];exact h.size) (by show(st.put (some t) QO).boxes.length=(st.put (some t) QO).slots.length;rw[mr,gW,aD];exact h.bsize) h.frame ?_ (λb y hy hb=>⟨YE b y hb (M4 b y hy hb),rfl,rfl⟩) ?_ ?_ ?_ (.inl ⟨by simp,KY⟩);intro b y hy;have Vs:(if b∈f2 then some (lI.hand 0) else g.fL b)=some y:=hy;by_cases hm:b∈f2;exact h.iw b _ (hl b (by simp[hm]));rw[aI hm]at Vs;exact h.iw b y Vs;intro j bv hj;have hj':(st.slots.set t QO)[j]?=some bv:=by rw[<-gW];exact hj
  by_cases hjt:j=t;subst hjt;rw[bL]at hj';simp only[cr,htl]at hj';simp at hj';subst hj';refine .inr ⟨f1++f3,⟨vs,gJ,asI⟩,?_,?_⟩;refine aO.2 ⟨n1.1,n2.2.1,?_⟩;rintro b hb c hc rfl;exact n1.2.2 b hb b (bm _ hc) rfl;intro b hb;refine YE b _ (hl b (by rcases ay.1 hb with k|k<;>simp[k])) (λhm=>?_);rcases ay.1 hb with k|k;exact n1.2.2 b k b (aU _ hm) rfl;exact n2.2.2 b hm b k rfl;rw[aF (cd hjt)]at hj';exact .inl ⟨by simpa using hjt,hj',rfl⟩;intro s sF hb;have iB:st.boxes[s]?=some (some sF):=by rw[<-mr (d:=some t) (v:=QO)];exact hb
  exact .inl ⟨by simp,iB,rfl⟩;intro k u bv FY;cases k with
  |zero=>simp only[cR,bw,Prod.mk.injEq]at FY;obtain⟨rfl,rfl⟩:=FY;refine .inr ⟨f2,⟨_,anH,r2.mono hle (λb _=>⟨rfl,rfl⟩)⟩,n2.1,λb hb=>?_⟩;show(if b∈f2 then _ else _)=_;rw[aJ hb]
  |succ k=>simp at FY
 exact⟨v,w,_,.inl fG,eX.EJ al3 o.dst,hk⟩;cases hk;cases hk;cases hk
end Go.Dn
