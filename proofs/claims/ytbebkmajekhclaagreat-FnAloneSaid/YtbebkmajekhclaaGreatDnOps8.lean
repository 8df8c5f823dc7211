import Derived.Test.YtbebkmajekhclaaGreatDnOps7
/- Part 8: copy, and fields of structs in slots. -/
namespace Go.Dn
open Go.RowKit
variable {P:Program} {C:Ctx} {st:AS} {a:Act} {w:World} {R:Type} {r:R}
variable {lo:Nat} {ys:bP}
theorem U7 {zs:bP}(h:lo+zs.length<=ys.length):(DY ys lo zs).length=ys.length:=by simp[DY];omega
theorem af3 {zs:bP}(h:lo+zs.length<=ys.length)(j:Nat):(DY ys lo zs)[j]?=if lo<=j/\j<lo+zs.length then zs[j-lo]? else ys[j]?:=by
 unfold DY;have hl:(ys.take lo).length=lo:=by simp;omega
 by_cases h1:j<lo;rw[nX,bE (by omega),dW,aH h1];rw[bz (by omega),hl];by_cases h2:j<lo+zs.length;rw[zip,bE (by omega)];rw[nX,bz (by omega),bS];congr 1;omega
theorem af4:DY ys lo []=ys:=by simp[DY]
theorem aeJ {o:Oper}{s x:Operand}{t t':TypeId}(ho:o.op=.call {callee:=.builtin .copy,args:=#[s,x],argTypes:=#[t,t']}){v:Value}{w':World}(h:(Builtin.copy_ #[t,t'] o.type #[a.eval s,a.eval x]).run P w=.ok v w'):(execOp a.eval o).run P w=.ok (.value v) w':=by
 have e1:(#[s,x]:Array Operand).map a.eval=#[a.eval s,a.eval x]:=by simp
 simp only[execOp,ho,resolve,e1,Sem.run_bind,Sem.run_pure,Result.andThen_ok,invoke,builtin];show((Builtin.copy_ #[t,t'] o.type #[a.eval s,a.eval x]).run P w).andThen _=_;rw[h];rfl
theorem aeC {E:Env}(hE:jR P E.ty){o:Oper}{args:Array Operand}{ts:Array TypeId}(ho:o.op=.call {callee:=.builtin .copy,args,argTypes:=ts})(h:pc C st a w){K:AS->ay R}(hk:RF E o ts.toList args.toList st K=some r):nC P C o a w K r:=by
 obtain⟨g,hg⟩:=h;unfold RF at hk;split at hk;rename_i t t' ep rt tg lo e xs s uM gE;obtain⟨x,y,rfl,hx,hy⟩:=Qz gE;have et:ts=#[t,t']:=by apply fK;simpa using uM
 subst et;split at hk;rename_i tg' e' ys iE;split at hk;rename_i hee;subst hee;split at hk;rename_i hc;obtain⟨rfl,hT,hT',Ac,rfl⟩:=hc;simp only at hk;have wa:=hg.rd x;rw[hx]at wa;have hxc:=fb wa;have Sh:=hg.rd y;rw[hy]at Sh;have hsv:=(fb Sh).1;obtain⟨te,hu,⟨⟨inf,z,DG,vB,_⟩,_⟩⟩:=Gp hE hT;have awj:inf.size=1:=vB;obtain⟨v0,f2,fG,Dh,Bq,pq⟩:=hg.Vi rt (by simp) iE;obtain⟨_,_,⟨o1,n1,k1,hv1,IX⟩,Xg⟩:=hxc;obtain⟨Ng,Xg⟩:=Xg Ac;have hm:(s.take xs.length).length=Nat.min s.length xs.length:=by simp[Nat.min_comm]
 have hzl:(dz (s.take xs.length)).length=Nat.min s.length xs.length:=by rw[dz,bL,hm]
 have De:((ByteArray.mk s.toArray).extract 0 (Nat.min s.length xs.length)).data.map (λb=>Value.int .u8 b.toNat)=((dz (s.take xs.length)).map (Value.int .u8)).toArray:=by
  rw[extract_mk];simp only[ez,dz,List.map_map];have:s.take (Nat.min s.length xs.length)=s.take xs.length:=by show s.take (min s.length xs.length)=_;rcases Nat.le_total s.length xs.length with h|h;rw[iI h,cd (bh _),cd h];rw[Nat.min_eq_right h]
  rw[this];simp;rfl
 have hN:(Nat.min xs.length s.length:Nat)=Nat.min s.length xs.length:=Nat.min_comm _ _
 have eU:∀w',(match o1 with|some ad=>(storeCells ad ((dz (s.take xs.length)).map (Value.int .u8))).run P w=.ok () w'|none=>w'=w)->
  (execOp a.eval o).run P w=.ok (.value (.int .i64 (Nat.min xs.length s.length:Nat))) w':=by
  intro w' hw
  refine aeJ ho ?_
  rw[hv1,IX,hsv,hN]
  simp only[Builtin.copy_]
  simp only[underlying,Sem.run_bind,run_program,hu,Result.andThen_ok,Sem.run_pure,List.getElem?_toArray,cC,fD,Builtin.lenOf,sizeOf,typeInfo,DG,Builtin.firstCells,yN,De]
  cases o1 with
  |none=>simp only at hw;subst hw;simp[goInt]
  |some ad=>simp only at hw;simp[hw,goInt]
 have key:∀w',(match o1 with|some ad=>(storeCells ad ((dz (s.take xs.length)).map (Value.int .u8))).run P w=.ok () w'|none=>w'=w)->Fr (λb=>ei (g.eX b)\/b∈f2) w w'->w'.heap.size=w.heap.size->
  fQ g.hw w' (.sl (.int .u8)) [v0] (DY ys lo.toNat (dz (s.take xs.length))) f2->nC P C o a w K r:=by
  intro w' hw jH ae3 ik
  obtain⟨g',oX⟩:=pq w' g.hw (.sl (.own (some tg')) (.int .u8) (DY ys lo.toNat (dz (s.take xs.length)))) f2 (λc' hle VK Ho=>⟨by rw[VK,Ho];exact ik,λt ht=>by have h1:=fG.2 t ht;exact⟨(hle.hdr t h1.1).1,by rw[(hle.hdr t h1.1).2];exact h1.2⟩⟩) Dh (λb hb=>⟨by rw[ae3];exact(hg.gL b _ (Bq b hb)).1,.inl hb⟩) jH (λ_ _ _ _ _=>rfl)
  exact⟨_,_,_,.inl (eU w' hw),⟨g',oX.quiet o.dst (av:=.one (.int .i64 (min xs.length s.length:Nat))) (nq (kO _ _ _))⟩,hk⟩
 have O5:v0=g.hdr tg':=(fG.2 tg' rfl).2;have ik:=fG.1;by_cases hxs:xs=[]
 subst hxs;have hz:dz (s.take ([]:bP).length)=[]:=by simp[dz]
 rw[hz]at key;refine key w ?_ (Fr.refl _ _) rfl (by rw[af4];exact ik);cases o1 with|none=>rfl|some ad=>simp[storeCells]
 rcases Xg with rfl|⟨n,b,o0,len,cap,k2,hlo,QZ,hle,hvx⟩;exact absurd rfl hxs;have QZ:g.hdr tg'=.slice (some ⟨b,o0,none⟩) len cap:=QZ;rw[hv1]at hvx;simp only[Value.slice.injEq,CT.size,oa]at hvx;obtain⟨rfl,_,_⟩:=hvx;obtain⟨u,UD,hO⟩:=ik;simp at UD;subst UD;rw[QZ]at O5;have hxl:xs.length≠0:=λh=>hxs (cm h);rcases hO with⟨⟨ad,rfl⟩,rfl,rfl⟩|⟨b2,o2,Z8,arr,T,fr,fps,rfl,hb,tN,hs,hc,hh,rfl,hl,hr⟩;simp only[Value.slice.injEq]at O5;omega;have hb:w.heap[b2]?=some (.cells arr T fr):=hb;simp only[Value.slice.injEq,bp,Addr.mk.injEq]at O5;obtain⟨⟨rfl,rfl,_⟩,hyl,rfl⟩:=O5;simp only[CT.size,oa]at hs hh hr;have hh:g.hw b2=o2+ys.length:=hh;have avt:lo.toNat=n:=by omega
 have awh:Nat.min s.length xs.length<=xs.length:=Nat.min_le_right _ _;have ib:n+(dz (s.take xs.length)).length<=ys.length:=by rw[hzl];omega
 have amJ:o2+n+((dz (s.take xs.length)).map (Value.int .u8)).length<=arr.size:=by rw[bL];omega
 have nA:=xA P b2 (o2+n) T fr ((dz (s.take xs.length)).map (Value.int .u8)) 0 w arr hb tN (by simpa using amJ) (by simp[Value.oneCell']);simp only[eG]at nA;have GV:=na hb;refine key _ nA ⟨rfl,rfl,rfl,by rw[mB];exact bh _,λc _ hc=>nu (λe=>hc (.inr (by simp[e])))⟩ (mB ..) ?_;rw[avt];have hlen:=U7 ib;refine⟨_,rfl,.inr ⟨b2,o2,Z8,_,T,fr,fps,by rw[hlen],yp GV,λj hj=>tN j (by rwa[jb]at hj),by rw[jb];simpa[CT.size]using hs,by rw[hlen];exact hc,by rw[hlen];simpa[CT.size]using hh,rfl,by rw[hlen];exact hl,?_⟩⟩;intro i q f hq hf;simp only[CT.size,oa];have NJ:i<ys.length:=by have:=(aC.1 hq).1;omega
 have hold:=hr i ys[i] f (ak NJ) hf;refine⟨?_,hold.2⟩;have DE:(ff arr (o2+n) ((dz (s.take xs.length)).map (Value.int .u8))).toList[o2+i]?=some (.int .u8 q):=by
  rw[zM amJ];rw[af3 ib]at hq;simp only[bL];by_cases tV:n<=i/\i<n+(dz (s.take xs.length)).length;rw[aH tV]at hq;rw[zip,show o2+i-(o2+n)=i-n by omega,List.getElem?_map,hq];rfl;rw[aG tV]at hq;rw[nX];have h1:=hold.1;have h2:((arr.toList.drop (o2+i)).take 1)[0]?=some (.int .u8 ys[i]):=by rw[h1];rfl
  rw[jM]at h2;simp only[Nat.zero_lt_one,cg,eG]at h2;rw[ak NJ]at hq;simp at hq;rw[h2,hq]
 have gF:o2+i<(ff arr (o2+n) ((dz (s.take xs.length)).map (Value.int .u8))).toList.length:=(aC.1 DE).1;rw[ca gF];have:=(aC.1 DE).2;simp[this];cases hk;cases hk;cases hk;cases hk
def acW (P:Program)(l:aw ((Nat×Nat)×Nat)):Prop:=∀S f T,X3 l S f=some T->∀fs fd,P.underlying S=some (.struct fs)->fs[f]?=some fd->fd.type=T
def ftB (P:Program)(x:(Nat×Nat)×Nat):Bool:=
 match P.underlying x.1.1 with
 |some (.struct fs)=>match fs[x.1.2]? with|some fd=>fd.type==x.2|none=>true
 |_=>true
theorem X4 {P:Program}:∀{l:aw ((Nat×Nat)×Nat)},(l.all (ftB P))=true->acW P l
 |[],_,S,f,T,h=>by simp[X3]at h
 |((u,k),U)::l,hl,S,f,T,h=>by
  simp only[bX,ae]at hl;simp only[X3]at h;cases hu:(u==S&&k==f)with
  |true=>rw[hu]at h;simp at h hu;obtain⟨rfl,rfl⟩:=hu;subst h;intro fs fd hS hf;have:=hl.1;simp only[ftB,hS,hf]at this;simpa using this
  |false=>rw[hu]at h;exact X4 hl.2 S f T h
theorem ajx {T:TypeId}{sh:Shape}(hT:ahc P T sh)(cs:jd)(off:Nat)(ib:off+sh.ct.size<=cs.length): ∃v,(part T cs.toArray off).run P w=.ok v w/\Cut sh.agg v ((cs.drop off).take sh.ct.size):=by
 obtain⟨i,z,hi,vB,_⟩:=hT.elem.info;cases NH:sh.agg with
 |true=>obtain⟨fs,hu,_⟩:=hT.agg NH;refine⟨.agg (cs.toArray.extract off (off+sh.ct.size)),?_,?_⟩;simp only[part,isAgg,sizeOf,typeInfo,underlying,Sem.run_bind,run_program,hu,hi,Result.andThen_ok,Sem.run_pure,vB,cg,Sem.run_ite];simp only[Cut,cg];congr 1;apply fK;simp[List.take_drop]
 |false=>
  have h1:sh.ct.size=1:=by cases Mk:sh.ct with|pair a b=>have:=hT.pair a b Mk;rw[NH]at this;cases this|_=>rfl
  rw[h1]at ib⊢;have gF:off<cs.length:=by omega
  refine⟨cs[off],?_,?_⟩;have hnu:∃d,P.underlying T=some d/\(match d with| .struct _| .array _ _=>True|_=>False)=False:=by cases Mk:sh.ct with|pair a b=>have:=hT.pair a b Mk;rw[NH]at this;cases this|int k=>exact⟨_,hT.int k Mk NH,rfl⟩|bool=>exact⟨_,hT.bool Mk NH,rfl⟩|str=>exact⟨_,hT.str Mk NH,rfl⟩|sl e=>obtain⟨te,hu,_⟩:=hT.sl e Mk NH;exact⟨_,hu,rfl⟩
  obtain⟨d,hu,hd⟩:=hnu;simp only[part,isAgg,underlying,Sem.run_bind,run_program,hu,Result.andThen_ok,Sem.run_pure];cases d<;>simp at hd<;>simp[ak gF];simp only[Cut,bm,cv];rw[ca gF];rfl
theorem Wy {E:Env}(hE:jR P E.ty)(hF:acW P E.fts){o:Oper}{S:TypeId}{t f:Nat}(ho:o.op=.field S (.tmp t) f)(h:pc C st a w){K:AS->ay R}(hk:GM E o S t f st K=some r):nC P C o a w K r:=by
 obtain⟨g,h⟩:=h;unfold GM at hk;split at hk;rename_i ct kx cs T hS hg hT;split at hk;rename_i fo n sh Q1 hsh;split at hk;rename_i hc;obtain⟨rfl,hcl,ib⟩:=hc;obtain⟨fs,hu,IU⟩:=(hE S _ hS).agg rfl;rw[ej]at Q1;obtain⟨fd,hfd,aqp,hn,i,hi,vB⟩:=IU f fo _ Q1;have hty:=hF S f T hT fs fd hu hfd;have htl:t<st.slots.length:=by
  rcases cn t st.slots.length with gF|BQ;exact gF;have:st.get t=.bot:=by simp[AS.get,ej,bC BQ]
  rw[this]at hg;cases hg
 obtain⟨fp,hr,GX,hl⟩:=h.slot t;rw[hg]at hr;obtain⟨vs,fS,hr⟩:=hr;have hlen:=hr.length;obtain⟨v,Xg,ap9⟩:=ajx (P:=P) (w:=w) (hE T sh hsh) vs fo (by omega);have eU:(execOp a.eval o).run P w=.ok (.value v) w:=by
  have he:a.eval (.tmp t)=.agg vs.toArray:=by simp only[Cut,cg]at fS;exact fS
  simp only[execOp,ho,he,Instr.field,underlying,Sem.run_bind,run_program,hu,Result.andThen_ok,Sem.run_pure,hfd,asAgg,aqp,hty,Xg]
 obtain⟨f1,f2,f3,rfl,r1,r2,r3⟩:=hr.mid fo sh.ct.size;have UA:=GX;rw[aY]at UA;have n1:=aN.1 UA;have n2:=aN.1 n1.2.1;let QO:AV:=.val true (eP cs fo (bg st.ep ((cs.drop fo).take sh.ct.size)));let bU:AS:=st.put (some t) QO;let g':Gh:={g with eX:=λb=>if b∈f2 then some (.hand 0) else g.eX b}
 have hle:(db C g st w).Le (db C g' bU w):=by have:= @UX C g st w (some t) QO;exact⟨this.A,this.hdr,this.Wa,this.ep,this.Kb,this.agf⟩
 have ZE:∀b y,g.eX b=some y->b∉f2->g'.eX b=some y:=by intro b y hb hm;show(if b∈f2 then _ else _)=_;rw[aG hm];exact hb
 have Nh:∀b y,y≠ .slot t->g.eX b=some y->b∉f2:=λb y hy hb hm=>hy (by have:=hl b (by simp[hm]);rw[hb]at this;simpa using this);have avH:bO (db C g' bU w) vs (eP cs fo (bg st.ep ((cs.drop fo).take sh.ct.size))) (f1++f3):=by
  have hbl:(bg st.ep ((cs.drop fo).take sh.ct.size)).length=sh.ct.size:=by simp[bg];omega
  have e:vs=vs.take fo++(vs.drop fo).take sh.ct.size++vs.drop (fo+sh.ct.size):=by rw[aY,<-fw,cE,cE]
  have:=bO.append (bO.append (r1.mono hle (λb _=>⟨rfl,rfl⟩)) ((r2.bg).mono hle (by simp))) (r3.mono hle (λb _=>⟨rfl,rfl⟩));rw[<-e,bI]at this;rw[eP,hbl];exact this
 have aoi:ew C g' bU a w [(v,.val sh.agg ((cs.drop fo).take sh.ct.size))]:=by
  refine h.step (λy=>y≠ .slot t) hle h.defers (by show _=(st.put (some t) QO).slots.length;rw[gw,aB];exact h.size) (by show(st.put (some t) QO).boxes.length=(st.put (some t) QO).slots.length;rw[ll,gw,aB];exact h.bsize) h.frame ?_ (λb y hy hb=>⟨ZE b y hb (Nh b y hy hb),rfl,rfl⟩) ?_ ?_ ?_ (.inl ⟨by simp,Lh⟩);intro b y hy;have VN:(if b∈f2 then some (kz.hand 0) else g.eX b)=some y:=hy;by_cases hm:b∈f2;exact h.gL b _ (hl b (by simp[hm]));rw[aG hm]at VN;exact h.gL b y VN;intro j bv hj;have hj':(st.slots.set t QO)[j]?=some bv:=by rw[<-gw];exact hj
  by_cases hjt:j=t;subst hjt;rw[bG]at hj';simp only[cg,htl]at hj';simp at hj';subst hj';refine .inr ⟨f1++f3,⟨vs,fS,avH⟩,?_,?_⟩;refine aN.2 ⟨n1.1,n2.2.1,?_⟩;rintro b hb c hc rfl;exact n1.2.2 b hb b (bu _ hc) rfl;intro b hb;refine ZE b _ (hl b (by rcases az.1 hb with k|k<;>simp[k])) (λhm=>?_);rcases az.1 hb with k|k;exact n1.2.2 b k b (bH _ hm) rfl;exact n2.2.2 b hm b k rfl;rw[aP (cR hjt)]at hj';exact .inl ⟨by simpa using hjt,hj',rfl⟩;intro s rJ hb;have ix:st.boxes[s]?=some (some rJ):=by rw[<-ll (d:=some t) (v:=QO)];exact hb
  exact .inl ⟨by simp,ix,rfl⟩;intro k u bv FU;cases k with
  |zero=>simp only[cC,bp,Prod.mk.injEq]at FU;obtain⟨rfl,rfl⟩:=FU;refine .inr ⟨f2,⟨_,ap9,r2.mono hle (λb _=>⟨rfl,rfl⟩)⟩,n2.1,λb hb=>?_⟩;show(if b∈f2 then _ else _)=_;rw[aH hb]
  |succ k=>simp at FU
 exact⟨v,w,_,.inl eU,ew.Ez aoi o.dst,hk⟩;cases hk;cases hk;cases hk
end Go.Dn
