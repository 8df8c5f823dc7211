import Derived.Test.YtnmppgnbjfdffaaGreatDnOps7
/- Part 8: copy, and fields of structs in slots. -/
namespace Go.Dn
open Go.RowKit
variable {P:Program} {C:Ctx} {st:AS} {a:Act} {w:World} {R:Type} {r:R}
variable {lo:Nat} {ys:cw}
theorem PO {zs:cw}(h:lo+zs.length<=ys.length):(Az ys lo zs).length=ys.length:=by simp[Az];omega
theorem ZO {zs:cw}(h:lo+zs.length<=ys.length)(j:Nat):(Az ys lo zs)[j]?=if lo<=j/\j<lo+zs.length then zs[j-lo]? else ys[j]?:=by
 unfold Az;have hl:(ys.take lo).length=lo:=by simp;omega
 by_cases h1:j<lo;rw[lZ,bz (by omega),dA,aE h1];rw[bq (by omega),hl];by_cases h2:j<lo+zs.length;rw[zip,bz (by omega)];rw[lZ,bq (by omega),bI];congr 1;omega
theorem ZP:Az ys lo []=ys:=by simp[Az]
theorem Yc {o:Oper}{s x:Operand}{t t':TypeId}(ho:o.op=.call {callee:=.builtin .copy,args:=#[s,x],argTypes:=#[t,t']}){v:Value}{w':World}(h:(Builtin.copy_ #[t,t'] o.type #[a.eval s,a.eval x]).run P w=.ok v w'):(execOp a.eval o).run P w=.ok (.value v) w':=by
 have e1:(#[s,x]:Array Operand).map a.eval=#[a.eval s,a.eval x]:=by simp
 simp only[execOp,ho,resolve,e1,Sem.run_bind,Sem.run_pure,Result.andThen_ok,invoke,builtin];show((Builtin.copy_ #[t,t'] o.type #[a.eval s,a.eval x]).run P w).andThen _=_;rw[h];rfl
theorem X4 {E:Env}(hE:ja P E.ty){o:Oper}{args:Array Operand}{ts:Array TypeId}(ho:o.op=.call {callee:=.builtin .copy,args,argTypes:=ts})(h:np C st a w){K:AS->ax R}(hk:MV E o ts.toList args.toList st K=some r):ma P C o a w K r:=by
 obtain⟨g,hg⟩:=h;unfold MV at hk;split at hk;rename_i t t' ep rt tg lo e xs s rU fN;obtain⟨x,y,rfl,hx,hy⟩:=LW fN;have et:ts=#[t,t']:=by apply eQ;simpa using rU
 subst et;split at hk;rename_i tg' e' ys gI;split at hk;rename_i hee;subst hee;split at hk;rename_i hc;obtain⟨rfl,hT,hT',wN,rfl⟩:=hc;simp only at hk;have tj:=hg.rd x;rw[hx]at tj;have hxc:=ew tj;have No:=hg.rd y;rw[hy]at No;have hsv:=(ew No).1;obtain⟨te,hu,⟨⟨inf,z,Al,ti,_⟩,_⟩⟩:=CR hE hT;have aof:inf.size=1:=ti;obtain⟨v0,f2,eL,AJ,xY,pC⟩:=hg.P0 rt (by simp) gI;obtain⟨_,_,⟨o1,n1,k1,hv1,Fb⟩,RI⟩:=hxc;obtain⟨I7,RI⟩:=RI wN;have hm:(s.take xs.length).length=Nat.min s.length xs.length:=by simp[Nat.min_comm]
 have hzl:(dj (s.take xs.length)).length=Nat.min s.length xs.length:=by rw[dj,da,hm]
 have zP:((ByteArray.mk s.toArray).extract 0 (Nat.min s.length xs.length)).data.map (λb=>Value.int .u8 b.toNat)=((dj (s.take xs.length)).map (Value.int .u8)).toArray:=by
  rw[extract_mk];simp only[dP,dj,List.map_map];have:s.take (Nat.min s.length xs.length)=s.take xs.length:=by show s.take (min s.length xs.length)=_;rcases Nat.le_total s.length xs.length with h|h;rw[gL h,bK (aU _),bK h];rw[Nat.min_eq_right h]
  rw[this];simp;rfl
 have hN:(Nat.min xs.length s.length:Nat)=Nat.min s.length xs.length:=Nat.min_comm _ _
 have ee:∀w',(match o1 with|some ad=>(storeCells ad ((dj (s.take xs.length)).map (Value.int .u8))).run P w=.ok () w'|none=>w'=w)->
  (execOp a.eval o).run P w=.ok (.value (.int .i64 (Nat.min xs.length s.length:Nat))) w':=by
  intro w' hw
  refine Yc ho ?_
  rw[hv1,Fb,hsv,hN]
  simp only[Builtin.copy_]
  simp only[underlying,Sem.run_bind,run_program,hu,Result.andThen_ok,Sem.run_pure,List.getElem?_toArray,cr,dW,Builtin.lenOf,sizeOf,typeInfo,Al,Builtin.firstCells,vO,zP]
  cases o1 with
  |none=>simp only at hw;subst hw;simp[goInt]
  |some ad=>simp only at hw;simp[hw,goInt]
 have key:∀w',(match o1 with|some ad=>(storeCells ad ((dj (s.take xs.length)).map (Value.int .u8))).run P w=.ok () w'|none=>w'=w)->Fr (λb=>dE (g.ej b)\/b∈f2) w w'->w'.heap.size=w.heap.size->
  ff g.hw w' (.sl (.int .u8)) [v0] (Az ys lo.toNat (dj (s.take xs.length))) f2->ma P C o a w K r:=by
  intro w' hw jf YA gE
  obtain⟨g',nm⟩:=pC w' g.hw (.sl (.own (some tg')) (.int .u8) (Az ys lo.toNat (dj (s.take xs.length)))) f2 (λc' hle Qx DP=>⟨by rw[Qx,DP];exact gE,λt ht=>by have h1:=eL.2 t ht;exact⟨(hle.hdr t h1.1).1,by rw[(hle.hdr t h1.1).2];exact h1.2⟩⟩) AJ (λb hb=>⟨by rw[YA];exact(hg.fS b _ (xY b hb)).1,.inl hb⟩) jf (λ_ _ _ _ _=>rfl)
  exact⟨_,_,_,.inl (ee w' hw),⟨g',nm.quiet o.dst (av:=.one (.int .i64 (min xs.length s.length:Nat))) (lT (jO _ _ _))⟩,hk⟩
 have KB:v0=g.hdr tg':=(eL.2 tg' rfl).2;have gE:=eL.1;by_cases hxs:xs=[]
 subst hxs;have hz:dj (s.take ([]:cw).length)=[]:=by simp[dj]
 rw[hz]at key;refine key w ?_ (Fr.refl _ _) rfl (by rw[ZP];exact gE);cases o1 with|none=>rfl|some ad=>simp[storeCells]
 rcases RI with rfl|⟨n,b,o0,len,cap,k2,hlo,Mk,hle,hvx⟩;exact absurd rfl hxs;have Mk:g.hdr tg'=.slice (some ⟨b,o0,none⟩) len cap:=Mk;rw[hv1]at hvx;simp only[Value.slice.injEq,CT.size,mG]at hvx;obtain⟨rfl,_,_⟩:=hvx;obtain⟨u,Pn,hO⟩:=gE;simp at Pn;subst Pn;rw[Mk]at KB;have hxl:xs.length≠0:=λh=>hxs (bS h);rcases hO with⟨⟨ad,rfl⟩,rfl,rfl⟩|⟨b2,o2,T6,arr,T,fr,fps,rfl,hb,qZ,hs,hc,hh,rfl,hl,hr⟩;simp only[Value.slice.injEq]at KB;omega;have hb:w.heap[b2]?=some (.cells arr T fr):=hb;simp only[Value.slice.injEq,aZ,Addr.mk.injEq]at KB;obtain⟨⟨rfl,rfl,_⟩,hyl,rfl⟩:=KB;simp only[CT.size,mG]at hs hh hr;have hh:g.hw b2=o2+ys.length:=hh;have ano:lo.toNat=n:=by omega
 have aod:Nat.min s.length xs.length<=xs.length:=Nat.min_le_right _ _;have gw:n+(dj (s.take xs.length)).length<=ys.length:=by rw[hzl];omega
 have af3:o2+n+((dj (s.take xs.length)).map (Value.int .u8)).length<=arr.size:=by rw[da];omega
 have mi:=uD P b2 (o2+n) T fr ((dj (s.take xs.length)).map (Value.int .u8)) 0 w arr hb qZ (by simpa using af3) (by simp[Value.oneCell']);simp only[dT]at mi;have DY:=lB hb;refine key _ mi ⟨rfl,rfl,rfl,by rw[kY];exact aU _,λc _ hc=>lW (λe=>hc (.inr (by simp[e])))⟩ (kY ..) ?_;rw[ano];have hlen:=PO gw;refine⟨_,rfl,.inr ⟨b2,o2,T6,_,T,fr,fps,by rw[hlen],vk DY,λj hj=>qZ j (by rwa[ij]at hj),by rw[ij];simpa[CT.size]using hs,by rw[hlen];exact hc,by rw[hlen];simpa[CT.size]using hh,rfl,by rw[hlen];exact hl,?_⟩⟩;intro i q f hq hf;simp only[CT.size,mG];have Ml:i<ys.length:=by have:=(aF.1 hq).1;omega
 have hold:=hr i ys[i] f (al Ml) hf;refine⟨?_,hold.2⟩;have Ai:(eC arr (o2+n) ((dj (s.take xs.length)).map (Value.int .u8))).toList[o2+i]?=some (.int .u8 q):=by
  rw[wA af3];rw[ZO gw]at hq;simp only[da];by_cases sJ:n<=i/\i<n+(dj (s.take xs.length)).length;rw[aE sJ]at hq;rw[zip,show o2+i-(o2+n)=i-n by omega,List.getElem?_map,hq];rfl;rw[aH sJ]at hq;rw[lZ];have h1:=hold.1;have h2:((arr.toList.drop (o2+i)).take 1)[0]?=some (.int .u8 ys[i]):=by rw[h1];rfl
  rw[iW]at h2;simp only[Nat.zero_lt_one,bN,dT]at h2;rw[al Ml]at hq;simp at hq;rw[h2,hq]
 have gQ:o2+i<(eC arr (o2+n) ((dj (s.take xs.length)).map (Value.int .u8))).toList.length:=(aF.1 Ai).1;rw[bJ gQ];have:=(aF.1 Ai).2;simp[this];cases hk;cases hk;cases hk;cases hk
def WD (P:Program)(l:aw ((Nat×Nat)×Nat)):Prop:=∀S f T,Sm l S f=some T->∀fs fd,P.underlying S=some (.struct fs)->fs[f]?=some fd->fd.type=T
def ftB (P:Program)(x:(Nat×Nat)×Nat):Bool:=
 match P.underlying x.1.1 with
 |some (.struct fs)=>match fs[x.1.2]? with|some fd=>fd.type==x.2|none=>true
 |_=>true
theorem Sn {P:Program}:∀{l:aw ((Nat×Nat)×Nat)},(l.all (ftB P))=true->WD P l
 |[],_,S,f,T,h=>by simp[Sm]at h
 |((u,k),U)::l,hl,S,f,T,h=>by
  simp only[cb,ae]at hl;simp only[Sm]at h;cases hu:(u==S&&k==f)with
  |true=>rw[hu]at h;simp at h hu;obtain⟨rfl,rfl⟩:=hu;subst h;intro fs fd hS hf;have:=hl.1;simp only[ftB,hS,hf]at this;simpa using this
  |false=>rw[hu]at h;exact Sn hl.2 S f T h
theorem ac9 {T:TypeId}{sh:Shape}(hT:aaQ P T sh)(cs:iq)(off:Nat)(gw:off+sh.ct.size<=cs.length): ∃v,(part T cs.toArray off).run P w=.ok v w/\Cut sh.agg v ((cs.drop off).take sh.ct.size):=by
 obtain⟨i,z,hi,ti,_⟩:=hT.elem.info;cases Jr:sh.agg with
 |true=>obtain⟨fs,hu,_⟩:=hT.agg Jr;refine⟨.agg (cs.toArray.extract off (off+sh.ct.size)),?_,?_⟩;simp only[part,isAgg,sizeOf,typeInfo,underlying,Sem.run_bind,run_program,hu,hi,Result.andThen_ok,Sem.run_pure,ti,bN,Sem.run_ite];simp only[Cut,bN];congr 1;apply eQ;simp[List.take_drop]
 |false=>
  have h1:sh.ct.size=1:=by cases Ik:sh.ct with|pair a b=>have:=hT.pair a b Ik;rw[Jr]at this;cases this|_=>rfl
  rw[h1]at gw⊢;have gQ:off<cs.length:=by omega
  refine⟨cs[off],?_,?_⟩;have hnu:∃d,P.underlying T=some d/\(match d with| .struct _| .array _ _=>True|_=>False)=False:=by cases Ik:sh.ct with|pair a b=>have:=hT.pair a b Ik;rw[Jr]at this;cases this|int k=>exact⟨_,hT.int k Ik Jr,rfl⟩|bool=>exact⟨_,hT.bool Ik Jr,rfl⟩|str=>exact⟨_,hT.str Ik Jr,rfl⟩|sl e=>obtain⟨te,hu,_⟩:=hT.sl e Ik Jr;exact⟨_,hu,rfl⟩
  obtain⟨d,hu,hd⟩:=hnu;simp only[part,isAgg,underlying,Sem.run_bind,run_program,hu,Result.andThen_ok,Sem.run_pure];cases d<;>simp at hd<;>simp[al gQ];simp only[Cut,aW,bU];rw[bJ gQ];rfl
theorem Q7 {E:Env}(hE:ja P E.ty)(hF:WD P E.fts){o:Oper}{S:TypeId}{t f:Nat}(ho:o.op=.field S (.tmp t) f)(h:np C st a w){K:AS->ax R}(hk:Dg E o S t f st K=some r):ma P C o a w K r:=by
 obtain⟨g,h⟩:=h;unfold Dg at hk;split at hk;rename_i ct jw cs T hS hg hT;split at hk;rename_i fo n sh Mn hsh;split at hk;rename_i hc;obtain⟨rfl,hcl,gw⟩:=hc;obtain⟨fs,hu,E9⟩:=(hE S _ hS).agg rfl;rw[dJ]at Mn;obtain⟨fd,hfd,aja,hn,i,hi,ti⟩:=E9 f fo _ Mn;have hty:=hF S f T hT fs fd hu hfd;have htl:t<st.slots.length:=by
  rcases cc t st.slots.length with gQ|yP;exact gQ;have:st.get t=.bot:=by simp[AS.get,dJ,bh yP]
  rw[this]at hg;cases hg
 obtain⟨fp,hr,Dq,hl⟩:=h.slot t;rw[hg]at hr;obtain⟨vs,fi,hr⟩:=hr;have hlen:=hr.length;obtain⟨v,RI,aiU⟩:=ac9 (P:=P) (w:=w) (hE T sh hsh) vs fo (by omega);have ee:(execOp a.eval o).run P w=.ok (.value v) w:=by
  have he:a.eval (.tmp t)=.agg vs.toArray:=by simp only[Cut,bN]at fi;exact fi
  simp only[execOp,ho,he,Instr.field,underlying,Sem.run_bind,run_program,hu,Result.andThen_ok,Sem.run_pure,hfd,asAgg,aja,hty,RI]
 obtain⟨f1,f2,f3,rfl,r1,r2,r3⟩:=hr.mid fo sh.ct.size;have Pj:=Dq;rw[aQ]at Pj;have n1:=aI.1 Pj;have n2:=aI.1 n1.2.1;let Mb:AV:=.val true (dZ cs fo (aR st.ep ((cs.drop fo).take sh.ct.size)));let bH:AS:=st.put (some t) Mb;let g':Gh:={g with ej:=λb=>if b∈f2 then some (.hand 0) else g.ej b}
 have hle:(cH C g st w).Le (cH C g' bH w):=by have:= @PG C g st w (some t) Mb;exact⟨this.A,this.hdr,this.QT,this.ep,this.Gl,this.ZX⟩
 have TH:∀b y,g.ej b=some y->b∉f2->g'.ej b=some y:=by intro b y hb hm;show(if b∈f2 then _ else _)=_;rw[aH hm];exact hb
 have I8:∀b y,y≠ .slot t->g.ej b=some y->b∉f2:=λb y hy hb hm=>hy (by have:=hl b (by simp[hm]);rw[hb]at this;simpa using this);have anC:bB (cH C g' bH w) vs (dZ cs fo (aR st.ep ((cs.drop fo).take sh.ct.size))) (f1++f3):=by
  have hbl:(aR st.ep ((cs.drop fo).take sh.ct.size)).length=sh.ct.size:=by simp[aR];omega
  have e:vs=vs.take fo++(vs.drop fo).take sh.ct.size++vs.drop (fo+sh.ct.size):=by rw[aQ,<-eH,cl,cl]
  have:=bB.append (bB.append (r1.mono hle (λb _=>⟨rfl,rfl⟩)) ((r2.aR).mono hle (by simp))) (r3.mono hle (λb _=>⟨rfl,rfl⟩));rw[<-e,bV]at this;rw[dZ,hbl];exact this
 have ahj:dM C g' bH a w [(v,.val sh.agg ((cs.drop fo).take sh.ct.size))]:=by
  refine h.step (λy=>y≠ .slot t) hle h.defers (by show _=(st.put (some t) Mb).slots.length;rw[fK,aC];exact h.size) (by show(st.put (some t) Mb).boxes.length=(st.put (some t) Mb).slots.length;rw[kb,fK,aC];exact h.bsize) h.frame ?_ (λb y hy hb=>⟨TH b y hb (I8 b y hy hb),rfl,rfl⟩) ?_ ?_ ?_ (.inl ⟨by simp,Hn⟩);intro b y hy;have Qz:(if b∈f2 then some (jy.hand 0) else g.ej b)=some y:=hy;by_cases hm:b∈f2;exact h.fS b _ (hl b (by simp[hm]));rw[aH hm]at Qz;exact h.fS b y Qz;intro j bv hj;have Yv:(st.slots.set t Mb)[j]?=some bv:=by rw[<-fK];exact hj
  by_cases hjt:j=t;subst hjt;rw[br]at Yv;simp only[bN,htl]at Yv;simp at Yv;subst Yv;refine .inr ⟨f1++f3,⟨vs,fi,anC⟩,?_,?_⟩;refine aI.2 ⟨n1.1,n2.2.1,?_⟩;rintro b hb c hc rfl;exact n1.2.2 b hb b (bj _ hc) rfl;intro b hb;refine TH b _ (hl b (by rcases ay.1 hb with k|k<;>simp[k])) (λhm=>?_);rcases ay.1 hb with k|k;exact n1.2.2 b k b (bt _ hm) rfl;exact n2.2.2 b hm b k rfl;rw[aO (cO hjt)]at Yv;exact .inl ⟨by simpa using hjt,Yv,rfl⟩;intro s pH hb;have gM:st.boxes[s]?=some (some pH):=by rw[<-kb (d:=some t) (v:=Mb)];exact hb
  exact .inl ⟨by simp,gM,rfl⟩;intro k u bv Cv;cases k with
  |zero=>simp only[cr,aZ,Prod.mk.injEq]at Cv;obtain⟨rfl,rfl⟩:=Cv;refine .inr ⟨f2,⟨_,aiU,r2.mono hle (λb _=>⟨rfl,rfl⟩)⟩,n2.1,λb hb=>?_⟩;show(if b∈f2 then _ else _)=_;rw[aE hb]
  |succ k=>simp at Cv
 exact⟨v,w,_,.inl ee,dM.Bp ahj o.dst,hk⟩;cases hk;cases hk;cases hk
end Go.Dn
