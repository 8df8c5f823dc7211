import Derived.Test.YthllnaiaikjelaaGreatDnOps7
/- Part 8: copy, and fields of structs in slots. -/
namespace Go.Dn
open Go.RowKit
variable {P:Program} {C:Ctx} {st:AS} {a:Act} {w:World} {R:Type} {r:R}
variable {lo:Nat} {ys:cI}
theorem aaq {zs:cI}(h:lo+zs.length<=ys.length):(I6 ys lo zs).length=ys.length:=by simp[I6];omega
theorem ajM {zs:cI}(h:lo+zs.length<=ys.length)(j:Nat):(I6 ys lo zs)[j]?=if lo<=j/\j<lo+zs.length then zs[j-lo]? else ys[j]?:=by
 unfold I6;have hl:(ys.take lo).length=lo:=by simp;omega
 by_cases h1:j<lo;rw[nt,bF (by omega),dk,aM h1];rw[bw (by omega),hl];by_cases h2:j<lo+zs.length;rw[zip,bF (by omega)];rw[nt,bw (by omega),bQ];congr 1;omega
theorem ajN:I6 ys lo []=ys:=by simp[I6]
theorem aiB {o:Oper}{s x:Operand}{t t':TypeId}(ho:o.op=.call {callee:=.builtin .copy,args:=#[s,x],argTypes:=#[t,t']}){v:Value}{w':World}(h:(Builtin.copy_ #[t,t'] o.type #[a.eval s,a.eval x]).run P w=.ok v w'):(execOp a.eval o).run P w=.ok (.value v) w':=by
 have e1:(#[s,x]:Array Operand).map a.eval=#[a.eval s,a.eval x]:=by simp
 simp only[execOp,ho,resolve,e1,Sem.run_bind,Sem.run_pure,Result.andThen_ok,invoke,builtin];show((Builtin.copy_ #[t,t'] o.type #[a.eval s,a.eval x]).run P w).andThen _=_;rw[h];rfl
theorem aio {E:Env}(hE:kA P E.ty){o:Oper}{args:Array Operand}{ts:Array TypeId}(ho:o.op=.call {callee:=.builtin .copy,args,argTypes:=ts})(h:pF C st a w){K:AS->au R}(hk:XC E o ts.toList args.toList st K=some r):oX P C o a w K r:=by
 obtain⟨g,hg⟩:=h;unfold XC at hk;split at hk;rename_i t t' ep rt tg lo e xs s uH fJ;obtain⟨x,y,rfl,hx,hy⟩:=Ww fJ;have et:ts=#[t,t']:=by apply eO;simpa using uH
 subst et;split at hk;rename_i tg' e' ys iM;split at hk;rename_i hee;subst hee;split at hk;rename_i hc;obtain⟨rfl,hT,hT',Ck,rfl⟩:=hc;simp only at hk;have zR:=hg.rd x;rw[hx]at zR;have hxc:=eG zR;have X6:=hg.rd y;rw[hy]at X6;have hsv:=(eG X6).1;obtain⟨te,hu,⟨⟨inf,z,IT,xp,_⟩,_⟩⟩:=Mu hE hT;have aAm:inf.size=1:=xp;obtain⟨v0,f2,dY,C1,EH,ng⟩:=hg.aaz rt (by simp) iM;obtain⟨_,_,⟨o1,n1,k1,hv1,Hq⟩,ab7⟩:=hxc;obtain⟨Lp,ab7⟩:=ab7 Ck;have hm:(s.take xs.length).length=Nat.min s.length xs.length:=by simp[Nat.min_comm]
 have hzl:(da (s.take xs.length)).length=Nat.min s.length xs.length:=by rw[da,bW,hm]
 have Ig:((ByteArray.mk s.toArray).extract 0 (Nat.min s.length xs.length)).data.map (λb=>Value.int .u8 b.toNat)=((da (s.take xs.length)).map (Value.int .u8)).toArray:=by
  rw[extract_mk];simp only[fI,da,List.map_map];have:s.take (Nat.min s.length xs.length)=s.take xs.length:=by show s.take (min s.length xs.length)=_;rcases Nat.le_total s.length xs.length with h|h;rw[gX h,bL (ba _),bL h];rw[jt h]
  rw[this];simp;rfl
 have hN:(Nat.min xs.length s.length:Nat)=Nat.min s.length xs.length:=Nat.min_comm _ _
 have ej:∀w',(match o1 with|some ad=>(storeCells ad ((da (s.take xs.length)).map (Value.int .u8))).run P w=.ok () w'|none=>w'=w)->
  (execOp a.eval o).run P w=.ok (.value (.int .i64 (Nat.min xs.length s.length:Nat))) w':=by
  intro w' hw
  refine aiB ho ?_
  rw[hv1,Hq,hsv,hN]
  simp only[Builtin.copy_]
  simp only[underlying,Sem.run_bind,run_program,hu,Result.andThen_ok,Sem.run_pure,List.getElem?_toArray,cL,ff,Builtin.lenOf,sizeOf,typeInfo,IT,Builtin.firstCells,Du,Ig]
  cases o1 with
  |none=>simp only at hw;subst hw;simp[goInt]
  |some ad=>simp only at hw;simp[hw,goInt]
 have key:∀w',(match o1 with|some ad=>(storeCells ad ((da (s.take xs.length)).map (Value.int .u8))).run P w=.ok () w'|none=>w'=w)->Fr (λb=>dm (g.eo b)\/b∈f2) w w'->w'.heap.size=w.heap.size->
  eS g.hw w' (.sl (.int .u8)) [v0] (I6 ys lo.toNat (da (s.take xs.length))) f2->oX P C o a w K r:=by
  intro w' hw iw aiP fA
  obtain⟨g',oV⟩:=ng w' g.hw (.sl (.own (some tg')) (.int .u8) (I6 ys lo.toNat (da (s.take xs.length)))) f2 (λc' hle Tj Gv=>⟨by rw[Tj,Gv];exact fA,λt ht=>by have h1:=dY.2 t ht;exact⟨(hle.hdr t h1.1).1,by rw[(hle.hdr t h1.1).2];exact h1.2⟩⟩) C1 (λb hb=>⟨by rw[aiP];exact(hg.fV b _ (EH b hb)).1,.inl hb⟩) iw (λ_ _ _ _ _=>rfl)
  exact⟨_,_,_,.inl (ej w' hw),⟨g',oV.quiet o.dst (av:=.one (.int .i64 (min xs.length s.length:Nat))) (oM (ma _ _ _))⟩,hk⟩
 have Sz:v0=g.hdr tg':=(dY.2 tg' rfl).2;have fA:=dY.1;by_cases hxs:xs=[]
 subst hxs;have hz:da (s.take ([]:cI).length)=[]:=by simp[da]
 rw[hz]at key;refine key w ?_ (Fr.refl _ _) rfl (by rw[ajN];exact fA);cases o1 with|none=>rfl|some ad=>simp[storeCells]
 rcases ab7 with rfl|⟨n,b,o0,len,cap,k2,hlo,PI,hle,hvx⟩;exact absurd rfl hxs;have PI:g.hdr tg'=.slice (some ⟨b,o0,none⟩) len cap:=PI;rw[hv1]at hvx;simp only[Value.slice.injEq,CT.size,pM]at hvx;obtain⟨rfl,_,_⟩:=hvx;obtain⟨u,X4,hO⟩:=fA;simp at X4;subst X4;rw[PI]at Sz;have hxl:xs.length≠0:=λh=>hxs (cP h);rcases hO with⟨⟨ad,rfl⟩,rfl,rfl⟩|⟨b2,o2,abk,arr,T,fr,fps,rfl,hb,uG,hs,hc,hh,rfl,hl,hr⟩;simp only[Value.slice.injEq]at Sz;omega;have hb:w.heap[b2]?=some (.cells arr T fr):=hb;simp only[Value.slice.injEq,bf,Addr.mk.injEq]at Sz;obtain⟨⟨rfl,rfl,_⟩,hyl,rfl⟩:=Sz;simp only[CT.size,pM]at hs hh hr;have hh:g.hw b2=o2+ys.length:=hh;have azH:lo.toNat=n:=by omega
 have azJ:Nat.min s.length xs.length<=xs.length:=Nat.min_le_right _ _;have iy:n+(da (s.take xs.length)).length<=ys.length:=by rw[hzl];omega
 have apt:o2+n+((da (s.take xs.length)).map (Value.int .u8)).length<=arr.size:=by rw[bW];omega
 have nh:=B9 P b2 (o2+n) T fr ((da (s.take xs.length)).map (Value.int .u8)) 0 w arr hb uG (by simpa using apt) (by simp[Value.oneCell']);simp only[dW]at nh;have Lv:=og hb;refine key _ nh ⟨rfl,rfl,rfl,by rw[nA];exact ba _,λc _ hc=>oT (λe=>hc (.inr (by simp[e])))⟩ (nA ..) ?_;rw[azH];have hlen:=aaq iy;refine⟨_,rfl,.inr ⟨b2,o2,abk,_,T,fr,fps,by rw[hlen],CW Lv,λj hj=>uG j (by rwa[jq]at hj),by rw[jq];simpa[CT.size]using hs,by rw[hlen];exact hc,by rw[hlen];simpa[CT.size]using hh,rfl,by rw[hlen];exact hl,?_⟩⟩;intro i q f hq hf;simp only[CT.size,pM];have U6:i<ys.length:=by have:=(aJ.1 hq).1;omega
 have hold:=hr i ys[i] f (al U6) hf;refine⟨?_,hold.2⟩;have E1:(eX arr (o2+n) ((da (s.take xs.length)).map (Value.int .u8))).toList[o2+i]?=some (.int .u8 q):=by
  rw[Eh apt];rw[ajM iy]at hq;simp only[bW];by_cases vC:n<=i/\i<n+(da (s.take xs.length)).length;rw[aM vC]at hq;rw[zip,show o2+i-(o2+n)=i-n by omega,List.getElem?_map,hq];rfl;rw[aK vC]at hq;rw[nt];have h1:=hold.1;have h2:((arr.toList.drop (o2+i)).take 1)[0]?=some (.int .u8 ys[i]):=by rw[h1];rfl
  rw[kq]at h2;simp only[Nat.zero_lt_one,cd,dW]at h2;rw[al U6]at hq;simp at hq;rw[h2,hq]
 have iG:o2+i<(eX arr (o2+n) ((da (s.take xs.length)).map (Value.int .u8))).toList.length:=(aJ.1 E1).1;rw[cf iG];have:=(aJ.1 E1).2;simp[this];cases hk;cases hk;cases hk;cases hk
def agW (P:Program)(l:ar ((Nat×Nat)×Nat)):Prop:=∀S f T,acI l S f=some T->∀fs fd,P.underlying S=some (.struct fs)->fs[f]?=some fd->fd.type=T
def ftB (P:Program)(x:(Nat×Nat)×Nat):Bool:=
 match P.underlying x.1.1 with
 |some (.struct fs)=>match fs[x.1.2]? with|some fd=>fd.type==x.2|none=>true
 |_=>true
theorem acJ {P:Program}:∀{l:ar ((Nat×Nat)×Nat)},(l.all (ftB P))=true->agW P l
 |[],_,S,f,T,h=>by simp[acI]at h
 |((u,k),U)::l,hl,S,f,T,h=>by
  simp only[bV,ah]at hl;simp only[acI]at h;cases hu:(u==S&&k==f)with
  |true=>rw[hu]at h;simp at h hu;obtain⟨rfl,rfl⟩:=hu;subst h;intro fs fd hS hf;have:=hl.1;simp only[ftB,hS,hf]at this;simpa using this
  |false=>rw[hu]at h;exact acJ hl.2 S f T h
theorem amV {T:TypeId}{sh:Shape}(hT:akQ P T sh)(cs:iU)(off:Nat)(iy:off+sh.ct.size<=cs.length): ∃v,(part T cs.toArray off).run P w=.ok v w/\Cut sh.agg v ((cs.drop off).take sh.ct.size):=by
 obtain⟨i,z,hi,xp,_⟩:=hT.elem.info;cases TL:sh.agg with
 |true=>obtain⟨fs,hu,_⟩:=hT.agg TL;refine⟨.agg (cs.toArray.extract off (off+sh.ct.size)),?_,?_⟩;simp only[part,isAgg,sizeOf,typeInfo,underlying,Sem.run_bind,run_program,hu,hi,Result.andThen_ok,Sem.run_pure,xp,cd,Sem.run_ite];simp only[Cut,cd];congr 1;apply eO;simp[List.take_drop]
 |false=>
  have h1:sh.ct.size=1:=by cases Sv:sh.ct with|pair a b=>have:=hT.pair a b Sv;rw[TL]at this;cases this|_=>rfl
  rw[h1]at iy⊢;have iG:off<cs.length:=by omega
  refine⟨cs[off],?_,?_⟩;have hnu:∃d,P.underlying T=some d/\(match d with| .struct _| .array _ _=>True|_=>False)=False:=by cases Sv:sh.ct with|pair a b=>have:=hT.pair a b Sv;rw[TL]at this;cases this|int k=>exact⟨_,hT.int k Sv TL,rfl⟩|bool=>exact⟨_,hT.bool Sv TL,rfl⟩|str=>exact⟨_,hT.str Sv TL,rfl⟩|sl e=>obtain⟨te,hu,_⟩:=hT.sl e Sv TL;exact⟨_,hu,rfl⟩
  obtain⟨d,hu,hd⟩:=hnu;simp only[part,isAgg,underlying,Sem.run_bind,run_program,hu,Result.andThen_ok,Sem.run_pure];cases d<;>simp at hd<;>simp[al iG];simp only[Cut,bg,cD];rw[cf iG];rfl
theorem abH {E:Env}(hE:kA P E.ty)(hF:agW P E.fts){o:Oper}{S:TypeId}{t f:Nat}(ho:o.op=.field S (.tmp t) f)(h:pF C st a w){K:AS->au R}(hk:MT E o S t f st K=some r):oX P C o a w K r:=by
 obtain⟨g,h⟩:=h;unfold MT at hk;split at hk;rename_i ct lA cs T hS hg hT;split at hk;rename_i fo n sh WU hsh;split at hk;rename_i hc;obtain⟨rfl,hcl,iy⟩:=hc;obtain⟨fs,hu,NC⟩:=(hE S _ hS).agg rfl;rw[dV]at WU;obtain⟨fd,hfd,ark,hn,i,hi,xp⟩:=NC f fo _ WU;have hty:=hF S f T hT fs fd hu hfd;have htl:t<st.slots.length:=by
  rcases bS t st.slots.length with iG|Fe;exact iG;have:st.get t=.bot:=by simp[AS.get,dV,bJ Fe]
  rw[this]at hg;cases hg
 obtain⟨fp,hr,JK,hl⟩:=h.slot t;rw[hg]at hr;obtain⟨vs,eM,hr⟩:=hr;have hlen:=hr.length;obtain⟨v,ab7,aq5⟩:=amV (P:=P) (w:=w) (hE T sh hsh) vs fo (by omega);have ej:(execOp a.eval o).run P w=.ok (.value v) w:=by
  have he:a.eval (.tmp t)=.agg vs.toArray:=by simp only[Cut,cd]at eM;exact eM
  simp only[execOp,ho,he,Instr.field,underlying,Sem.run_bind,run_program,hu,Result.andThen_ok,Sem.run_pure,hfd,asAgg,ark,hty,ab7]
 obtain⟨f1,f2,f3,rfl,r1,r2,r3⟩:=hr.mid fo sh.ct.size;have ZV:=JK;rw[aW]at ZV;have n1:=aG.1 ZV;have n2:=aG.1 n1.2.1;let WL:AV:=.val true (du cs fo (bc st.ep ((cs.drop fo).take sh.ct.size)));let st':AS:=st.put (some t) WL;let g':Gh:={g with eo:=λb=>if b∈f2 then some (.hand 0) else g.eo b}
 have hle:(cO C g st w).Le (cO C g' st' w):=by have:= @aad C g st w (some t) WL;exact⟨this.A,this.hdr,this.abm,this.ep,this.Qn,this.ajV⟩
 have hlk:∀b y,g.eo b=some y->b∉f2->g'.eo b=some y:=by intro b y hb hm;show(if b∈f2 then _ else _)=_;rw[aK hm];exact hb
 have Tk:∀b y,y≠ .slot t->g.eo b=some y->b∉f2:=λb y hy hb hm=>hy (by have:=hl b (by simp[hm]);rw[hb]at this;simpa using this);have azW:bD (cO C g' st' w) vs (du cs fo (bc st.ep ((cs.drop fo).take sh.ct.size))) (f1++f3):=by
  have hbl:(bc st.ep ((cs.drop fo).take sh.ct.size)).length=sh.ct.size:=by simp[bc];omega
  have e:vs=vs.take fo++(vs.drop fo).take sh.ct.size++vs.drop (fo+sh.ct.size):=by rw[aW,<-eL,cK,cK]
  have:=bD.append (bD.append (r1.mono hle (λb _=>⟨rfl,rfl⟩)) ((r2.bc).mono hle (by simp))) (r3.mono hle (λb _=>⟨rfl,rfl⟩));rw[<-e,bC]at this;rw[du,hbl];exact this
 have aqk:dM C g' st' a w [(v,.val sh.agg ((cs.drop fo).take sh.ct.size))]:=by
  refine h.step (λy=>y≠ .slot t) hle h.defers (by show _=(st.put (some t) WL).slots.length;rw[gh,aL];exact h.size) (by show(st.put (some t) WL).boxes.length=(st.put (some t) WL).slots.length;rw[mm,gh,aL];exact h.bsize) h.frame ?_ (λb y hy hb=>⟨hlk b y hb (Tk b y hy hb),rfl,rfl⟩) ?_ ?_ ?_ (.inl ⟨by simp,Rz⟩);intro b y hy;have X5:(if b∈f2 then some (kb.hand 0) else g.eo b)=some y:=hy;by_cases hm:b∈f2;exact h.fV b _ (hl b (by simp[hm]));rw[aK hm]at X5;exact h.fV b y X5;intro j bv hj;have hj':(st.slots.set t WL)[j]?=some bv:=by rw[<-gh];exact hj
  by_cases hjt:j=t;subst hjt;rw[bt]at hj';simp only[cd,htl]at hj';simp at hj';subst hj';refine .inr ⟨f1++f3,⟨vs,eM,azW⟩,?_,?_⟩;refine aG.2 ⟨n1.1,n2.2.1,?_⟩;rintro b hb c hc rfl;exact n1.2.2 b hb b (bh _ hc) rfl;intro b hb;refine hlk b _ (hl b (by rcases aA.1 hb with k|k<;>simp[k])) (λhm=>?_);rcases aA.1 hb with k|k;exact n1.2.2 b k b (br _ hm) rfl;exact n2.2.2 b hm b k rfl;rw[aZ (cW hjt)]at hj';exact .inl ⟨by simpa using hjt,hj',rfl⟩;intro s oY hb;have ib:st.boxes[s]?=some (some oY):=by rw[<-mm (d:=some t) (v:=WL)];exact hb
  exact .inl ⟨by simp,ib,rfl⟩;intro k u bv LY;cases k with
  |zero=>simp only[cL,bf,Prod.mk.injEq]at LY;obtain⟨rfl,rfl⟩:=LY;refine .inr ⟨f2,⟨_,aq5,r2.mono hle (λb _=>⟨rfl,rfl⟩)⟩,n2.1,λb hb=>?_⟩;show(if b∈f2 then _ else _)=_;rw[aM hb]
  |succ k=>simp at LY
 exact⟨v,w,_,.inl ej,dM.Kj aqk o.dst,hk⟩;cases hk;cases hk;cases hk
end Go.Dn
