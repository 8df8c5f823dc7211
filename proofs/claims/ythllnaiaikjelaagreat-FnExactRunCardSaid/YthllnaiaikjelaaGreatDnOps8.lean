import Derived.Test.YthllnaiaikjelaaGreatDnOps7
/- Part 8: copy, and fields of structs in slots. -/
namespace Go.Dn
open Go.RowKit
variable {P:Program} {C:Ctx} {st:AS} {a:Act} {w:World} {R:Type} {r:R}
variable {lo:Nat} {ys:cI}
theorem aaI {zs:cI}(h:lo+zs.length<=ys.length):(Jo ys lo zs).length=ys.length:=by simp[Jo];omega
theorem aka {zs:cI}(h:lo+zs.length<=ys.length)(j:Nat):(Jo ys lo zs)[j]?=if lo<=j/\j<lo+zs.length then zs[j-lo]? else ys[j]?:=by
 unfold Jo;have hl:(ys.take lo).length=lo:=by simp;omega
 by_cases h1:j<lo;rw[ny,bI (by omega),dp,aM h1];rw[bw (by omega),hl];by_cases h2:j<lo+zs.length;rw[zip,bI (by omega)];rw[ny,bw (by omega),bR];congr 1;omega
theorem akb:Jo ys lo []=ys:=by simp[Jo]
theorem aiZ {o:Oper}{s x:Operand}{t t':TypeId}(ho:o.op=.call {callee:=.builtin .copy,args:=#[s,x],argTypes:=#[t,t']}){v:Value}{w':World}(h:(Builtin.copy_ #[t,t'] o.type #[a.eval s,a.eval x]).run P w=.ok v w'):(execOp a.eval o).run P w=.ok (.value v) w':=by
 have e1:(#[s,x]:Array Operand).map a.eval=#[a.eval s,a.eval x]:=by simp
 simp only[execOp,ho,resolve,e1,Sem.run_bind,Sem.run_pure,Result.andThen_ok,invoke,builtin];show((Builtin.copy_ #[t,t'] o.type #[a.eval s,a.eval x]).run P w).andThen _=_;rw[h];rfl
theorem aiN {E:Env}(hE:kG P E.ty){o:Oper}{args:Array Operand}{ts:Array TypeId}(ho:o.op=.call {callee:=.builtin .copy,args,argTypes:=ts})(h:pL C st a w){K:AS->au R}(hk:XV E o ts.toList args.toList st K=some r):pa P C o a w K r:=by
 obtain⟨g,hg⟩:=h;unfold XV at hk;split at hk;rename_i t t' ep rt tg lo e xs s uJ fK;obtain⟨x,y,rfl,hx,hy⟩:=WR fK;have et:ts=#[t,t']:=by apply eQ;simpa using uJ
 subst et;split at hk;rename_i tg' e' ys iP;split at hk;rename_i hee;subst hee;split at hk;rename_i hc;obtain⟨rfl,hT,hT',Cw,rfl⟩:=hc;simp only at hk;have Ac:=hg.rd x;rw[hx]at Ac;have hxc:=eI Ac;have Yr:=hg.rd y;rw[hy]at Yr;have hsv:=(eI Yr).1;obtain⟨te,hu,⟨⟨inf,z,Ja,xx,_⟩,_⟩⟩:=MN hE hT;have aAO:inf.size=1:=xx;obtain⟨v0,f2,ee,Dc,ER,nk⟩:=hg.aaR rt (by simp) iP;obtain⟨_,_,⟨o1,n1,k1,hv1,HE⟩,acu⟩:=hxc;obtain⟨LJ,acu⟩:=acu Cw;have hm:(s.take xs.length).length=Nat.min s.length xs.length:=by simp[Nat.min_comm]
 have hzl:(dc (s.take xs.length)).length=Nat.min s.length xs.length:=by rw[dc,bW,hm]
 have Iz:((ByteArray.mk s.toArray).extract 0 (Nat.min s.length xs.length)).data.map (λb=>Value.int .u8 b.toNat)=((dc (s.take xs.length)).map (Value.int .u8)).toArray:=by
  rw[extract_mk];simp only[fJ,dc,List.map_map];have:s.take (Nat.min s.length xs.length)=s.take xs.length:=by show s.take (min s.length xs.length)=_;rcases Nat.le_total s.length xs.length with h|h;rw[hG h,bN (ba _),bN h];rw[jw h]
  rw[this];simp;rfl
 have hN:(Nat.min xs.length s.length:Nat)=Nat.min s.length xs.length:=Nat.min_comm _ _
 have ez:∀w',(match o1 with|some ad=>(storeCells ad ((dc (s.take xs.length)).map (Value.int .u8))).run P w=.ok () w'|none=>w'=w)->
  (execOp a.eval o).run P w=.ok (.value (.int .i64 (Nat.min xs.length s.length:Nat))) w':=by
  intro w' hw
  refine aiZ ho ?_
  rw[hv1,HE,hsv,hN]
  simp only[Builtin.copy_]
  simp only[underlying,Sem.run_bind,run_program,hu,Result.andThen_ok,Sem.run_pure,List.getElem?_toArray,cL,fg,Builtin.lenOf,sizeOf,typeInfo,Ja,Builtin.firstCells,DG,Iz]
  cases o1 with
  |none=>simp only at hw;subst hw;simp[goInt]
  |some ad=>simp only at hw;simp[hw,goInt]
 have key:∀w',(match o1 with|some ad=>(storeCells ad ((dc (s.take xs.length)).map (Value.int .u8))).run P w=.ok () w'|none=>w'=w)->Fr (λb=>dq (g.eC b)\/b∈f2) w w'->w'.heap.size=w.heap.size->
  eU g.hw w' (.sl (.int .u8)) [v0] (Jo ys lo.toNat (dc (s.take xs.length))) f2->pa P C o a w K r:=by
  intro w' hw iA ajd fB
  obtain⟨g',oY⟩:=nk w' g.hw (.sl (.own (some tg')) (.int .u8) (Jo ys lo.toNat (dc (s.take xs.length)))) f2 (λc' hle TF GH=>⟨by rw[TF,GH];exact fB,λt ht=>by have h1:=ee.2 t ht;exact⟨(hle.hdr t h1.1).1,by rw[(hle.hdr t h1.1).2];exact h1.2⟩⟩) Dc (λb hb=>⟨by rw[ajd];exact(hg.fW b _ (ER b hb)).1,.inl hb⟩) iA (λ_ _ _ _ _=>rfl)
  exact⟨_,_,_,.inl (ez w' hw),⟨g',oY.quiet o.dst (av:=.one (.int .i64 (min xs.length s.length:Nat))) (oP (mh _ _ _))⟩,hk⟩
 have SW:v0=g.hdr tg':=(ee.2 tg' rfl).2;have fB:=ee.1;by_cases hxs:xs=[]
 subst hxs;have hz:dc (s.take ([]:cI).length)=[]:=by simp[dc]
 rw[hz]at key;refine key w ?_ (Fr.refl _ _) rfl (by rw[akb];exact fB);cases o1 with|none=>rfl|some ad=>simp[storeCells]
 rcases acu with rfl|⟨n,b,o0,len,cap,k2,hlo,P4,hle,hvx⟩;exact absurd rfl hxs;have P4:g.hdr tg'=.slice (some ⟨b,o0,none⟩) len cap:=P4;rw[hv1]at hvx;simp only[Value.slice.injEq,CT.size,pQ]at hvx;obtain⟨rfl,_,_⟩:=hvx;obtain⟨u,Yp,hO⟩:=fB;simp at Yp;subst Yp;rw[P4]at SW;have hxl:xs.length≠0:=λh=>hxs (cQ h);rcases hO with⟨⟨ad,rfl⟩,rfl,rfl⟩|⟨b2,o2,abG,arr,T,fr,fps,rfl,hb,uI,hs,hc,hh,rfl,hl,hr⟩;simp only[Value.slice.injEq]at SW;omega;have hb:w.heap[b2]?=some (.cells arr T fr):=hb;simp only[Value.slice.injEq,bf,Addr.mk.injEq]at SW;obtain⟨⟨rfl,rfl,_⟩,hyl,rfl⟩:=SW;simp only[CT.size,pQ]at hs hh hr;have hh:g.hw b2=o2+ys.length:=hh;have az9:lo.toNat=n:=by omega
 have aAb:Nat.min s.length xs.length<=xs.length:=Nat.min_le_right _ _;have iB:n+(dc (s.take xs.length)).length<=ys.length:=by rw[hzl];omega
 have apR:o2+n+((dc (s.take xs.length)).map (Value.int .u8)).length<=arr.size:=by rw[bW];omega
 have nm:=Ci P b2 (o2+n) T fr ((dc (s.take xs.length)).map (Value.int .u8)) 0 w arr hb uI (by simpa using apR) (by simp[Value.oneCell']);simp only[dZ]at nm;have LU:=oo hb;refine key _ nm ⟨rfl,rfl,rfl,by rw[nG];exact ba _,λc _ hc=>oW (λe=>hc (.inr (by simp[e])))⟩ (nG ..) ?_;rw[az9];have hlen:=aaI iB;refine⟨_,rfl,.inr ⟨b2,o2,abG,_,T,fr,fps,by rw[hlen],C6 LU,λj hj=>uI j (by rwa[js]at hj),by rw[js];simpa[CT.size]using hs,by rw[hlen];exact hc,by rw[hlen];simpa[CT.size]using hh,rfl,by rw[hlen];exact hl,?_⟩⟩;intro i q f hq hf;simp only[CT.size,pQ];have Vq:i<ys.length:=by have:=(aJ.1 hq).1;omega
 have hold:=hr i ys[i] f (al Vq) hf;refine⟨?_,hold.2⟩;have Fc:(eY arr (o2+n) ((dc (s.take xs.length)).map (Value.int .u8))).toList[o2+i]?=some (.int .u8 q):=by
  rw[Er apR];rw[aka iB]at hq;simp only[bW];by_cases vG:n<=i/\i<n+(dc (s.take xs.length)).length;rw[aM vG]at hq;rw[zip,show o2+i-(o2+n)=i-n by omega,List.getElem?_map,hq];rfl;rw[aK vG]at hq;rw[ny];have h1:=hold.1;have h2:((arr.toList.drop (o2+i)).take 1)[0]?=some (.int .u8 ys[i]):=by rw[h1];rfl
  rw[ky]at h2;simp only[Nat.zero_lt_one,cd,dZ]at h2;rw[al Vq]at hq;simp at hq;rw[h2,hq]
 have iJ:o2+i<(eY arr (o2+n) ((dc (s.take xs.length)).map (Value.int .u8))).toList.length:=(aJ.1 Fc).1;rw[cg iJ];have:=(aJ.1 Fc).2;simp[this];cases hk;cases hk;cases hk;cases hk
def ahp (P:Program)(l:ar ((Nat×Nat)×Nat)):Prop:=∀S f T,ac2 l S f=some T->∀fs fd,P.underlying S=some (.struct fs)->fs[f]?=some fd->fd.type=T
def ftB (P:Program)(x:(Nat×Nat)×Nat):Bool:=
 match P.underlying x.1.1 with
 |some (.struct fs)=>match fs[x.1.2]? with|some fd=>fd.type==x.2|none=>true
 |_=>true
theorem ac3 {P:Program}:∀{l:ar ((Nat×Nat)×Nat)},(l.all (ftB P))=true->ahp P l
 |[],_,S,f,T,h=>by simp[ac2]at h
 |((u,k),U)::l,hl,S,f,T,h=>by
  simp only[bV,ah]at hl;simp only[ac2]at h;cases hu:(u==S&&k==f)with
  |true=>rw[hu]at h;simp at h hu;obtain⟨rfl,rfl⟩:=hu;subst h;intro fs fd hS hf;have:=hl.1;simp only[ftB,hS,hf]at this;simpa using this
  |false=>rw[hu]at h;exact ac3 hl.2 S f T h
theorem anl {T:TypeId}{sh:Shape}(hT:alf P T sh)(cs:iW)(off:Nat)(iB:off+sh.ct.size<=cs.length): ∃v,(part T cs.toArray off).run P w=.ok v w/\Cut sh.agg v ((cs.drop off).take sh.ct.size):=by
 obtain⟨i,z,hi,xx,_⟩:=hT.elem.info;cases T8:sh.agg with
 |true=>obtain⟨fs,hu,_⟩:=hT.agg T8;refine⟨.agg (cs.toArray.extract off (off+sh.ct.size)),?_,?_⟩;simp only[part,isAgg,sizeOf,typeInfo,underlying,Sem.run_bind,run_program,hu,hi,Result.andThen_ok,Sem.run_pure,xx,cd,Sem.run_ite];simp only[Cut,cd];congr 1;apply eQ;simp[List.take_drop]
 |false=>
  have h1:sh.ct.size=1:=by cases SR:sh.ct with|pair a b=>have:=hT.pair a b SR;rw[T8]at this;cases this|_=>rfl
  rw[h1]at iB⊢;have iJ:off<cs.length:=by omega
  refine⟨cs[off],?_,?_⟩;have hnu:∃d,P.underlying T=some d/\(match d with| .struct _| .array _ _=>True|_=>False)=False:=by cases SR:sh.ct with|pair a b=>have:=hT.pair a b SR;rw[T8]at this;cases this|int k=>exact⟨_,hT.int k SR T8,rfl⟩|bool=>exact⟨_,hT.bool SR T8,rfl⟩|str=>exact⟨_,hT.str SR T8,rfl⟩|sl e=>obtain⟨te,hu,_⟩:=hT.sl e SR T8;exact⟨_,hu,rfl⟩
  obtain⟨d,hu,hd⟩:=hnu;simp only[part,isAgg,underlying,Sem.run_bind,run_program,hu,Result.andThen_ok,Sem.run_pure];cases d<;>simp at hd<;>simp[al iJ];simp only[Cut,bg,cE];rw[cg iJ];rfl
theorem ab1 {E:Env}(hE:kG P E.ty)(hF:ahp P E.fts){o:Oper}{S:TypeId}{t f:Nat}(ho:o.op=.field S (.tmp t) f)(h:pL C st a w){K:AS->au R}(hk:Nd E o S t f st K=some r):pa P C o a w K r:=by
 obtain⟨g,h⟩:=h;unfold Nd at hk;split at hk;rename_i ct lG cs T hS hg hT;split at hk;rename_i fo n sh Xd hsh;split at hk;rename_i hc;obtain⟨rfl,hcl,iB⟩:=hc;obtain⟨fs,hu,NU⟩:=(hE S _ hS).agg rfl;rw[dY]at Xd;obtain⟨fd,hfd,arM,hn,i,hi,xx⟩:=NU f fo _ Xd;have hty:=hF S f T hT fs fd hu hfd;have htl:t<st.slots.length:=by
  rcases bS t st.slots.length with iJ|Fp;exact iJ;have:st.get t=.bot:=by simp[AS.get,dY,bL Fp]
  rw[this]at hg;cases hg
 obtain⟨fp,hr,J0,hl⟩:=h.slot t;rw[hg]at hr;obtain⟨vs,eP,hr⟩:=hr;have hlen:=hr.length;obtain⟨v,acu,ary⟩:=anl (P:=P) (w:=w) (hE T sh hsh) vs fo (by omega);have ez:(execOp a.eval o).run P w=.ok (.value v) w:=by
  have he:a.eval (.tmp t)=.agg vs.toArray:=by simp only[Cut,cd]at eP;exact eP
  simp only[execOp,ho,he,Instr.field,underlying,Sem.run_bind,run_program,hu,Result.andThen_ok,Sem.run_pure,hfd,asAgg,arM,hty,acu]
 obtain⟨f1,f2,f3,rfl,r1,r2,r3⟩:=hr.mid fo sh.ct.size;have aae:=J0;rw[aX]at aae;have n1:=aG.1 aae;have n2:=aG.1 n1.2.1;let W5:AV:=.val true (dw cs fo (bc st.ep ((cs.drop fo).take sh.ct.size)));let st':AS:=st.put (some t) W5;let g':Gh:={g with eC:=λb=>if b∈f2 then some (.hand 0) else g.eC b}
 have hle:(cP C g st w).Le (cP C g' st' w):=by have:= @aav C g st w (some t) W5;exact⟨this.A,this.hdr,this.abI,this.ep,this.QF,this.akj⟩
 have hlk:∀b y,g.eC b=some y->b∉f2->g'.eC b=some y:=by intro b y hb hm;show(if b∈f2 then _ else _)=_;rw[aK hm];exact hb
 have TG:∀b y,y≠ .slot t->g.eC b=some y->b∉f2:=λb y hy hb hm=>hy (by have:=hl b (by simp[hm]);rw[hb]at this;simpa using this);have aAo:bE (cP C g' st' w) vs (dw cs fo (bc st.ep ((cs.drop fo).take sh.ct.size))) (f1++f3):=by
  have hbl:(bc st.ep ((cs.drop fo).take sh.ct.size)).length=sh.ct.size:=by simp[bc];omega
  have e:vs=vs.take fo++(vs.drop fo).take sh.ct.size++vs.drop (fo+sh.ct.size):=by rw[aX,<-eO,cK,cK]
  have:=bE.append (bE.append (r1.mono hle (λb _=>⟨rfl,rfl⟩)) ((r2.bc).mono hle (by simp))) (r3.mono hle (λb _=>⟨rfl,rfl⟩));rw[<-e,bD]at this;rw[dw,hbl];exact this
 have aqK:dN C g' st' a w [(v,.val sh.agg ((cs.drop fo).take sh.ct.size))]:=by
  refine h.step (λy=>y≠ .slot t) hle h.defers (by show _=(st.put (some t) W5).slots.length;rw[gi,aL];exact h.size) (by show(st.put (some t) W5).boxes.length=(st.put (some t) W5).slots.length;rw[mx,gi,aL];exact h.bsize) h.frame ?_ (λb y hy hb=>⟨hlk b y hb (TG b y hy hb),rfl,rfl⟩) ?_ ?_ ?_ (.inl ⟨by simp,RU⟩);intro b y hy;have Yq:(if b∈f2 then some (ki.hand 0) else g.eC b)=some y:=hy;by_cases hm:b∈f2;exact h.fW b _ (hl b (by simp[hm]));rw[aK hm]at Yq;exact h.fW b y Yq;intro j bv hj;have hj':(st.slots.set t W5)[j]?=some bv:=by rw[<-gi];exact hj
  by_cases hjt:j=t;subst hjt;rw[bu]at hj';simp only[cd,htl]at hj';simp at hj';subst hj';refine .inr ⟨f1++f3,⟨vs,eP,aAo⟩,?_,?_⟩;refine aG.2 ⟨n1.1,n2.2.1,?_⟩;rintro b hb c hc rfl;exact n1.2.2 b hb b (bh _ hc) rfl;intro b hb;refine hlk b _ (hl b (by rcases aA.1 hb with k|k<;>simp[k])) (λhm=>?_);rcases aA.1 hb with k|k;exact n1.2.2 b k b (br _ hm) rfl;exact n2.2.2 b hm b k rfl;rw[aZ (cX hjt)]at hj';exact .inl ⟨by simpa using hjt,hj',rfl⟩;intro s pb hb;have ig:st.boxes[s]?=some (some pb):=by rw[<-mx (d:=some t) (v:=W5)];exact hb
  exact .inl ⟨by simp,ig,rfl⟩;intro k u bv Mk;cases k with
  |zero=>simp only[cL,bf,Prod.mk.injEq]at Mk;obtain⟨rfl,rfl⟩:=Mk;refine .inr ⟨f2,⟨_,ary,r2.mono hle (λb _=>⟨rfl,rfl⟩)⟩,n2.1,λb hb=>?_⟩;show(if b∈f2 then _ else _)=_;rw[aM hb]
  |succ k=>simp at Mk
 exact⟨v,w,_,.inl ez,dN.KB aqK o.dst,hk⟩;cases hk;cases hk;cases hk
end Go.Dn
