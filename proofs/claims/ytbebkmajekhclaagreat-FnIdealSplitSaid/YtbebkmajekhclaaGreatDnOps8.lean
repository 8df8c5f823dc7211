import Derived.Test.YtbebkmajekhclaaGreatDnOps7
/- Part 8: copy, and fields of structs in slots. -/
namespace Go.Dn
open Go.RowKit
variable {P:Program} {C:Ctx} {st:AS} {a:Act} {w:World} {R:Type} {r:R}
variable {lo:Nat} {ys:bQ}
theorem Xg {zs:bQ}(h:lo+zs.length<=ys.length):(LJ ys lo zs).length=ys.length:=by simp[LJ];omega
theorem ah1 {zs:bQ}(h:lo+zs.length<=ys.length)(j:Nat):(LJ ys lo zs)[j]?=if lo<=j/\j<lo+zs.length then zs[j-lo]? else ys[j]?:=by
 unfold LJ;have hl:(ys.take lo).length=lo:=by simp;omega
 by_cases h1:j<lo;rw[nI,bK (by omega),dY,aI h1];rw[bA (by omega),hl];by_cases h2:j<lo+zs.length;rw[zip,bK (by omega)];rw[nI,bA (by omega),bS];congr 1;omega
theorem ah2:LJ ys lo []=ys:=by simp[LJ]
theorem agN {o:Oper}{s x:Operand}{t t':TypeId}(ho:o.op=.call {callee:=.builtin .copy,args:=#[s,x],argTypes:=#[t,t']}){v:Value}{w':World}(h:(Builtin.copy_ #[t,t'] o.type #[a.eval s,a.eval x]).run P w=.ok v w'):(execOp a.eval o).run P w=.ok (.value v) w':=by
 have e1:(#[s,x]:Array Operand).map a.eval=#[a.eval s,a.eval x]:=by simp
 simp only[execOp,ho,resolve,e1,Sem.run_bind,Sem.run_pure,Result.andThen_ok,invoke,builtin];show((Builtin.copy_ #[t,t'] o.type #[a.eval s,a.eval x]).run P w).andThen _=_;rw[h];rfl
theorem agH {E:Env}(hE:ka P E.ty){o:Oper}{args:Array Operand}{ts:Array TypeId}(ho:o.op=.call {callee:=.builtin .copy,args,argTypes:=ts})(h:py C st a w){K:AS->az R}(hk:TX E o ts.toList args.toList st K=some r):nG P C o a w K r:=by
 obtain⟨g,hg⟩:=h;unfold TX at hk;split at hk;rename_i t t' ep rt tg lo e xs s vK gP;obtain⟨x,y,rfl,hx,hy⟩:=SH gP;have et:ts=#[t,t']:=by apply fN;simpa using vK
 subst et;split at hk;rename_i tg' e' ys iL;split at hk;rename_i hee;subst hee;split at hk;rename_i hc;obtain⟨rfl,hT,hT',Bs,rfl⟩:=hc;simp only at hk;have xe:=hg.rd x;rw[hx]at xe;have hxc:=fu xe;have UF:=hg.rd y;rw[hy]at UF;have hsv:=(fu UF).1;obtain⟨te,hu,⟨⟨inf,z,Fa,uU,_⟩,_⟩⟩:=H4 hE hT;have azc:inf.size=1:=uU;obtain⟨v0,f2,fO,Fc,Cz,pB⟩:=hg.Xu rt (by simp) iL;obtain⟨_,_,⟨o1,n1,k1,hv1,KQ⟩,Zw⟩:=hxc;obtain⟨O5,Zw⟩:=Zw Bs;have hm:(s.take xs.length).length=Nat.min s.length xs.length:=by simp[Nat.min_comm]
 have hzl:(fX (s.take xs.length)).length=Nat.min s.length xs.length:=by rw[fX,bw,hm]
 have EA:((ByteArray.mk s.toArray).extract 0 (Nat.min s.length xs.length)).data.map (λb=>Value.int .u8 b.toNat)=((fX (s.take xs.length)).map (Value.int .u8)).toArray:=by
  rw[extract_mk];simp only[eG,fX,List.map_map];have:s.take (Nat.min s.length xs.length)=s.take xs.length:=by show s.take (min s.length xs.length)=_;rcases Nat.le_total s.length xs.length with h|h;rw[ju h,cx (bt _),cx h];rw[Nat.min_eq_right h]
  rw[this];simp;rfl
 have hN:(Nat.min xs.length s.length:Nat)=Nat.min s.length xs.length:=Nat.min_comm _ _
 have fg:∀w',(match o1 with|some ad=>(storeCells ad ((fX (s.take xs.length)).map (Value.int .u8))).run P w=.ok () w'|none=>w'=w)->
  (execOp a.eval o).run P w=.ok (.value (.int .i64 (Nat.min xs.length s.length:Nat))) w':=by
  intro w' hw
  refine agN ho ?_
  rw[hv1,KQ,hsv,hN]
  simp only[Builtin.copy_]
  simp only[underlying,Sem.run_bind,run_program,hu,Result.andThen_ok,Sem.run_pure,List.getElem?_toArray,cR,fI,Builtin.lenOf,sizeOf,typeInfo,Fa,Builtin.firstCells,Ad,EA]
  cases o1 with
  |none=>simp only at hw;subst hw;simp[goInt]
  |some ad=>simp only at hw;simp[hw,goInt]
 have key:∀w',(match o1 with|some ad=>(storeCells ad ((fX (s.take xs.length)).map (Value.int .u8))).run P w=.ok () w'|none=>w'=w)->Fr (λb=>ej (g.fj b)\/b∈f2) w w'->w'.heap.size=w.heap.size->
  fR g.hw w' (.sl (.int .u8)) [v0] (LJ ys lo.toNat (fX (s.take xs.length))) f2->nG P C o a w K r:=by
  intro w' hw jt ag9 iG
  obtain⟨g',pw⟩:=pB w' g.hw (.sl (.own (some tg')) (.int .u8) (LJ ys lo.toNat (fX (s.take xs.length)))) f2 (λc' hle XZ Je=>⟨by rw[XZ,Je];exact iG,λt ht=>by have h1:=fO.2 t ht;exact⟨(hle.hdr t h1.1).1,by rw[(hle.hdr t h1.1).2];exact h1.2⟩⟩) Fc (λb hb=>⟨by rw[ag9];exact(hg.gN b _ (Cz b hb)).1,.inl hb⟩) jt (λ_ _ _ _ _=>rfl)
  exact⟨_,_,_,.inl (fg w' hw),⟨g',pw.quiet o.dst (av:=.one (.int .i64 (min xs.length s.length:Nat))) (nq (lh _ _ _))⟩,hk⟩
 have Rb:v0=g.hdr tg':=(fO.2 tg' rfl).2;have iG:=fO.1;by_cases hxs:xs=[]
 subst hxs;have hz:fX (s.take ([]:bQ).length)=[]:=by simp[fX]
 rw[hz]at key;refine key w ?_ (Fr.refl _ _) rfl (by rw[ah2];exact iG);cases o1 with|none=>rfl|some ad=>simp[storeCells]
 rcases Zw with rfl|⟨n,b,o0,len,cap,k2,hlo,Te,hle,hvx⟩;exact absurd rfl hxs;have Te:g.hdr tg'=.slice (some ⟨b,o0,none⟩) len cap:=Te;rw[hv1]at hvx;simp only[Value.slice.injEq,CT.size,oq]at hvx;obtain⟨rfl,_,_⟩:=hvx;obtain⟨u,WR,hO⟩:=iG;simp at WR;subst WR;rw[Te]at Rb;have hxl:xs.length≠0:=λh=>hxs (cQ h);rcases hO with⟨⟨ad,rfl⟩,rfl,rfl⟩|⟨b2,o2,abZ,arr,T,fr,fps,rfl,hb,uO,hs,hc,hh,rfl,hl,hr⟩;simp only[Value.slice.injEq]at Rb;omega;have hb:w.heap[b2]?=some (.cells arr T fr):=hb;simp only[Value.slice.injEq,bq,Addr.mk.injEq]at Rb;obtain⟨⟨rfl,rfl,_⟩,hyl,rfl⟩:=Rb;simp only[CT.size,oq]at hs hh hr;have hh:g.hw b2=o2+ys.length:=hh;have ayn:lo.toNat=n:=by omega
 have ayp:Nat.min s.length xs.length<=xs.length:=Nat.min_le_right _ _;have ik:n+(fX (s.take xs.length)).length<=ys.length:=by rw[hzl];omega
 have ao7:o2+n+((fX (s.take xs.length)).map (Value.int .u8)).length<=arr.size:=by rw[bw];omega
 have nD:=yz P b2 (o2+n) T fr ((fX (s.take xs.length)).map (Value.int .u8)) 0 w arr hb uO (by simpa using ao7) (by simp[Value.oneCell']);simp only[eN]at nD;have IG:=mQ hb;refine key _ nD ⟨rfl,rfl,rfl,by rw[my];exact bt _,λc _ hc=>nA (λe=>hc (.inr (by simp[e])))⟩ (my ..) ?_;rw[ayn];have hlen:=Xg ik;refine⟨_,rfl,.inr ⟨b2,o2,abZ,_,T,fr,fps,by rw[hlen],zE IG,λj hj=>uO j (by rwa[jb]at hj),by rw[jb];simpa[CT.size]using hs,by rw[hlen];exact hc,by rw[hlen];simpa[CT.size]using hh,rfl,by rw[hlen];exact hl,?_⟩⟩;intro i q f hq hf;simp only[CT.size,oq];have Py:i<ys.length:=by have:=(aC.1 hq).1;omega
 have hold:=hr i ys[i] f (ak Py) hf;refine⟨?_,hold.2⟩;have E8:(fw arr (o2+n) ((fX (s.take xs.length)).map (Value.int .u8))).toList[o2+i]?=some (.int .u8 q):=by
  rw[AX ao7];rw[ah1 ik]at hq;simp only[bw];by_cases yK:n<=i/\i<n+(fX (s.take xs.length)).length;rw[aI yK]at hq;rw[zip,show o2+i-(o2+n)=i-n by omega,List.getElem?_map,hq];rfl;rw[aK yK]at hq;rw[nI];have h1:=hold.1;have h2:((arr.toList.drop (o2+i)).take 1)[0]?=some (.int .u8 ys[i]):=by rw[h1];rfl
  rw[jS]at h2;simp only[Nat.zero_lt_one,cz,eN]at h2;rw[ak Py]at hq;simp at hq;rw[h2,hq]
 have gr:o2+i<(fw arr (o2+n) ((fX (s.take xs.length)).map (Value.int .u8))).toList.length:=(aC.1 E8).1;rw[cv gr];have:=(aC.1 E8).2;simp[this];cases hk;cases hk;cases hk;cases hk
def aeV (P:Program)(l:aw ((Nat×Nat)×Nat)):Prop:=∀S f T,aak l S f=some T->∀fs fd,P.underlying S=some (.struct fs)->fs[f]?=some fd->fd.type=T
def ftB (P:Program)(x:(Nat×Nat)×Nat):Bool:=
 match P.underlying x.1.1 with
 |some (.struct fs)=>match fs[x.1.2]? with|some fd=>fd.type==x.2|none=>true
 |_=>true
theorem aal {P:Program}:∀{l:aw ((Nat×Nat)×Nat)},(l.all (ftB P))=true->aeV P l
 |[],_,S,f,T,h=>by simp[aak]at h
 |((u,k),U)::l,hl,S,f,T,h=>by
  simp only[bX,af]at hl;simp only[aak]at h;cases hu:(u==S&&k==f)with
  |true=>rw[hu]at h;simp at h hu;obtain⟨rfl,rfl⟩:=hu;subst h;intro fs fd hS hf;have:=hl.1;simp only[ftB,hS,hf]at this;simpa using this
  |false=>rw[hu]at h;exact aal hl.2 S f T h
theorem alQ {T:TypeId}{sh:Shape}(hT:ajg P T sh)(cs:jf)(off:Nat)(ik:off+sh.ct.size<=cs.length): ∃v,(part T cs.toArray off).run P w=.ok v w/\Cut sh.agg v ((cs.drop off).take sh.ct.size):=by
 obtain⟨i,z,hi,uU,_⟩:=hT.elem.info;cases Pw:sh.agg with
 |true=>obtain⟨fs,hu,_⟩:=hT.agg Pw;refine⟨.agg (cs.toArray.extract off (off+sh.ct.size)),?_,?_⟩;simp only[part,isAgg,sizeOf,typeInfo,underlying,Sem.run_bind,run_program,hu,hi,Result.andThen_ok,Sem.run_pure,uU,cz,Sem.run_ite];simp only[Cut,cz];congr 1;apply fN;simp[List.take_drop]
 |false=>
  have h1:sh.ct.size=1:=by cases N1:sh.ct with|pair a b=>have:=hT.pair a b N1;rw[Pw]at this;cases this|_=>rfl
  rw[h1]at ik⊢;have gr:off<cs.length:=by omega
  refine⟨cs[off],?_,?_⟩;have hnu:∃d,P.underlying T=some d/\(match d with| .struct _| .array _ _=>True|_=>False)=False:=by cases N1:sh.ct with|pair a b=>have:=hT.pair a b N1;rw[Pw]at this;cases this|int k=>exact⟨_,hT.int k N1 Pw,rfl⟩|bool=>exact⟨_,hT.bool N1 Pw,rfl⟩|str=>exact⟨_,hT.str N1 Pw,rfl⟩|sl e=>obtain⟨te,hu,_⟩:=hT.sl e N1 Pw;exact⟨_,hu,rfl⟩
  obtain⟨d,hu,hd⟩:=hnu;simp only[part,isAgg,underlying,Sem.run_bind,run_program,hu,Result.andThen_ok,Sem.run_pure];cases d<;>simp at hd<;>simp[ak gr];simp only[Cut,bn,cJ];rw[cv gr];rfl
theorem YE {E:Env}(hE:ka P E.ty)(hF:aeV P E.fts){o:Oper}{S:TypeId}{t f:Nat}(ho:o.op=.field S (.tmp t) f)(h:py C st a w){K:AS->az R}(hk:Iy E o S t f st K=some r):nG P C o a w K r:=by
 obtain⟨g,h⟩:=h;unfold Iy at hk;split at hk;rename_i ct kF cs T hS hg hT;split at hk;rename_i fo n sh Tg hsh;split at hk;rename_i hc;obtain⟨rfl,hcl,ik⟩:=hc;obtain⟨fs,hu,KN⟩:=(hE S _ hS).agg rfl;rw[ez]at Tg;obtain⟨fd,hfd,asJ,hn,i,hi,uU⟩:=KN f fo _ Tg;have hty:=hF S f T hT fs fd hu hfd;have htl:t<st.slots.length:=by
  rcases bT t st.slots.length with gr|BN;exact gr;have:st.get t=.bot:=by simp[AS.get,ez,bJ BN]
  rw[this]at hg;cases hg
 obtain⟨fp,hr,Jr,hl⟩:=h.slot t;rw[hg]at hr;obtain⟨vs,fU,hr⟩:=hr;have hlen:=hr.length;obtain⟨v,Zw,ast⟩:=alQ (P:=P) (w:=w) (hE T sh hsh) vs fo (by omega);have fg:(execOp a.eval o).run P w=.ok (.value v) w:=by
  have he:a.eval (.tmp t)=.agg vs.toArray:=by simp only[Cut,cz]at fU;exact fU
  simp only[execOp,ho,he,Instr.field,underlying,Sem.run_bind,run_program,hu,Result.andThen_ok,Sem.run_pure,hfd,asAgg,asJ,hty,Zw]
 obtain⟨f1,f2,f3,rfl,r1,r2,r3⟩:=hr.mid fo sh.ct.size;have WN:=Jr;rw[bj]at WN;have n1:=aQ.1 WN;have n2:=aQ.1 n1.2.1;let S2:AV:=.val true (eX cs fo (bl st.ep ((cs.drop fo).take sh.ct.size)));let cp:AS:=st.put (some t) S2;let g':Gh:={g with fj:=λb=>if b∈f2 then some (.hand 0) else g.fj b}
 have hle:(dq C g st w).Le (dq C g' cp w):=by have:= @W7 C g st w (some t) S2;exact⟨this.A,this.hdr,this.Yl,this.ep,this.LS,this.aic⟩
 have hlk:∀b y,g.fj b=some y->b∉f2->g'.fj b=some y:=by intro b y hb hm;show(if b∈f2 then _ else _)=_;rw[aK hm];exact hb
 have O6:∀b y,y≠ .slot t->g.fj b=some y->b∉f2:=λb y hy hb hm=>hy (by have:=hl b (by simp[hm]);rw[hb]at this;simpa using this);have ayC:ca (dq C g' cp w) vs (eX cs fo (bl st.ep ((cs.drop fo).take sh.ct.size))) (f1++f3):=by
  have hbl:(bl st.ep ((cs.drop fo).take sh.ct.size)).length=sh.ct.size:=by simp[bl];omega
  have e:vs=vs.take fo++(vs.drop fo).take sh.ct.size++vs.drop (fo+sh.ct.size):=by rw[bj,<-fE,cW,cW]
  have:=ca.append (ca.append (r1.mono hle (λb _=>⟨rfl,rfl⟩)) ((r2.bl).mono hle (by simp))) (r3.mono hle (λb _=>⟨rfl,rfl⟩));rw[<-e,bR]at this;rw[eX,hbl];exact this
 have aqD:eE C g' cp a w [(v,.val sh.agg ((cs.drop fo).take sh.ct.size))]:=by
  refine h.step (λy=>y≠ .slot t) hle h.defers (by show _=(st.put (some t) S2).slots.length;rw[gx,ay];exact h.size) (by show(st.put (some t) S2).boxes.length=(st.put (some t) S2).slots.length;rw[ly,gx,ay];exact h.bsize) h.frame ?_ (λb y hy hb=>⟨hlk b y hb (O6 b y hy hb),rfl,rfl⟩) ?_ ?_ ?_ (.inl ⟨by simp,M0⟩);intro b y hy;have hy':(if b∈f2 then some (kK.hand 0) else g.fj b)=some y:=hy;by_cases hm:b∈f2;exact h.gN b _ (hl b (by simp[hm]));rw[aK hm]at hy';exact h.gN b y hy';intro j bv hj;have hj':(st.slots.set t S2)[j]?=some bv:=by rw[<-gx];exact hj
  by_cases hjt:j=t;subst hjt;rw[bO]at hj';simp only[cz,htl]at hj';simp at hj';subst hj';refine .inr ⟨f1++f3,⟨vs,fU,ayC⟩,?_,?_⟩;refine aQ.2 ⟨n1.1,n2.2.1,?_⟩;rintro b hb c hc rfl;exact n1.2.2 b hb b (bD _ hc) rfl;intro b hb;refine hlk b _ (hl b (by rcases aA.1 hb with k|k<;>simp[k])) (λhm=>?_);rcases aA.1 hb with k|k;exact n1.2.2 b k b (bP _ hm) rfl;exact n2.2.2 b hm b k rfl;rw[aR (df hjt)]at hj';exact .inl ⟨by simpa using hjt,hj',rfl⟩;intro s sB hb;have iz:st.boxes[s]?=some (some sB):=by rw[<-ly (d:=some t) (v:=S2)];exact hb
  exact .inl ⟨by simp,iz,rfl⟩;intro k u bv HE;cases k with
  |zero=>simp only[cR,bq,Prod.mk.injEq]at HE;obtain⟨rfl,rfl⟩:=HE;refine .inr ⟨f2,⟨_,ast,r2.mono hle (λb _=>⟨rfl,rfl⟩)⟩,n2.1,λb hb=>?_⟩;show(if b∈f2 then _ else _)=_;rw[aI hb]
  |succ k=>simp at HE
 exact⟨v,w,_,.inl fg,eE.Gj aqD o.dst,hk⟩;cases hk;cases hk;cases hk
end Go.Dn
