import Derived.Test.YtainmjjkipbciaaGreatDnOps7
/- Part 8: copy, and fields of structs in slots. -/
namespace Go.Dn
open Go.RowKit
variable {P:Program} {C:Ctx} {st:AS} {a:Act} {w:World} {R:Type} {r:R}
variable {lo:Nat} {ys:dC}
theorem Oj {zs:dC}(h:lo+zs.length<=ys.length):(zL ys lo zs).length=ys.length:=by simp[zL];omega
theorem Xx {zs:dC}(h:lo+zs.length<=ys.length)(j:Nat):(zL ys lo zs)[j]?=if lo<=j/\j<lo+zs.length then zs[j-lo]? else ys[j]?:=by
 unfold zL;have hl:(ys.take lo).length=lo:=by simp;omega
 by_cases h1:j<lo;rw[jR,bf (by omega),dP,aH h1];rw[bt (by omega),hl];by_cases h2:j<lo+zs.length;rw[zip,bf (by omega)];rw[jR,bt (by omega),bJ];congr 1;omega
theorem Xy:zL ys lo []=ys:=by simp[zL]
theorem Wc {o:Oper}{s x:Operand}{t t':TypeId}(ho:o.op=.call {callee:=.builtin .copy,args:=#[s,x],argTypes:=#[t,t']}){v:Value}{w':World}(h:(Builtin.copy_ #[t,t'] o.type #[a.eval s,a.eval x]).run P w=.ok v w'):(execOp a.eval o).run P w=.ok (.value v) w':=by
 have e1:(#[s,x]:Array Operand).map a.eval=#[a.eval s,a.eval x]:=by simp
 simp only[execOp,ho,resolve,e1,Sem.run_bind,Sem.run_pure,Result.andThen_ok,invoke,builtin];show((Builtin.copy_ #[t,t'] o.type #[a.eval s,a.eval x]).run P w).andThen _=_;rw[h];rfl
theorem V3 {E:Env}(hE:jr P E.ty){o:Oper}{args:Array Operand}{ts:Array TypeId}(ho:o.op=.call {callee:=.builtin .copy,args,argTypes:=ts})(h:nz C st a w){K:AS->aB R}(hk:Lv E o ts.toList args.toList st K=some r):mj P C o a w K r:=by
 obtain⟨g,hg⟩:=h;unfold Lv at hk;split at hk;rename_i t t' ep rt tg lo e xs s hts hargs;obtain⟨x,y,rfl,hx,hy⟩:=KG hargs;have et:ts=#[t,t']:=by apply fE;simpa using hts
 subst et;split at hk;rename_i tg' e' ys hget;split at hk;rename_i hee;subst hee;split at hk;rename_i hc;obtain⟨rfl,hT,hT',hep,rfl⟩:=hc;simp only at hk;have hxv:=hg.rd x;rw[hx]at hxv;have hxc:=eU hxv;have hyv:=hg.rd y;rw[hy]at hyv;have hsv:=(eU hyv).1;obtain⟨te,hu,⟨⟨inf,z,hinf,hsz,_⟩,_⟩⟩:=BZ hE hT;have hsz1:inf.size=1:=hsz;obtain⟨v0,f2,hrel,hn2,hl2,hfin⟩:=hg.Ov rt (by simp) hget;obtain⟨_,_,⟨o1,n1,k1,hv1,hn1⟩,hpart⟩:=hxc;obtain⟨hiss,hpart⟩:=hpart hep;have hm:(s.take xs.length).length=Nat.min s.length xs.length:=by simp[Nat.min_comm]
 have hzl:(dD (s.take xs.length)).length=Nat.min s.length xs.length:=by rw[dD,cI,hm]
 have hcells:((ByteArray.mk s.toArray).extract 0 (Nat.min s.length xs.length)).data.map (λb=>Value.int .u8 b.toNat)=((dD (s.take xs.length)).map (Value.int .u8)).toArray:=by
  rw[extract_mk];simp only[fM,dD,List.map_map];have:s.take (Nat.min s.length xs.length)=s.take xs.length:=by show s.take (min s.length xs.length)=_;rcases Nat.le_total s.length xs.length with h|h;rw[ig h,bP (aR _),bP h];rw[Nat.min_eq_right h]
  rw[this];simp;rfl
 have hN:(Nat.min xs.length s.length:Nat)=Nat.min s.length xs.length:=Nat.min_comm _ _
 have hrun:∀w',(match o1 with|some ad=>(storeCells ad ((dD (s.take xs.length)).map (Value.int .u8))).run P w=.ok () w'|none=>w'=w)->
  (execOp a.eval o).run P w=.ok (.value (.int .i64 (Nat.min xs.length s.length:Nat))) w':=by
  intro w' hw
  refine Wc ho ?_
  rw[hv1,hn1,hsv,hN]
  simp only[Builtin.copy_]
  simp only[underlying,Sem.run_bind,run_program,hu,Result.andThen_ok,Sem.run_pure,List.getElem?_toArray,cH,fz,Builtin.lenOf,sizeOf,typeInfo,hinf,Builtin.firstCells,vz,hcells]
  cases o1 with
  |none=>simp only at hw;subst hw;simp[goInt]
  |some ad=>simp only at hw;simp[hw,goInt]
 have key:∀w',(match o1 with|some ad=>(storeCells ad ((dD (s.take xs.length)).map (Value.int .u8))).run P w=.ok () w'|none=>w'=w)->Fr (λb=>dV (g.lab b)\/b∈f2) w w'->w'.heap.size=w.heap.size->
  fP g.hw w' (.sl (.int .u8)) [v0] (zL ys lo.toNat (dD (s.take xs.length))) f2->mj P C o a w K r:=by
  intro w' hw hfr hsz' hown
  obtain⟨g',hg'⟩:=hfin w' g.hw (.sl (.own (some tg')) (.int .u8) (zL ys lo.toNat (dD (s.take xs.length)))) f2 (λc' hle hcw hchw=>⟨by rw[hcw,hchw];exact hown,λt ht=>by have h1:=hrel.2 t ht;exact⟨(hle.hdr t h1.1).1,by rw[(hle.hdr t h1.1).2];exact h1.2⟩⟩) hn2 (λb hb=>⟨by rw[hsz'];exact(hg.labs b _ (hl2 b hb)).1,.inl hb⟩) hfr (λ_ _ _ _ _=>rfl)
  exact⟨_,_,_,.inl (hrun w' hw),⟨g',hg'.quiet o.dst (av:=.one (.int .i64 (min xs.length s.length:Nat))) (ma (kl _ _ _))⟩,hk⟩
 have hv0:v0=g.hdr tg':=(hrel.2 tg' rfl).2;have hown:=hrel.1;by_cases hxs:xs=[]
 subst hxs;have hz:dD (s.take ([]:dC).length)=[]:=by simp[dD]
 rw[hz]at key;refine key w ?_ (Fr.refl _ _) rfl (by rw[Xy];exact hown);cases o1 with|none=>rfl|some ad=>simp[storeCells]
 rcases hpart with rfl|⟨n,b,o0,len,cap,k2,hlo,hhdr,hle,hvx⟩;exact absurd rfl hxs;have hhdr:g.hdr tg'=.slice (some ⟨b,o0,none⟩) len cap:=hhdr;rw[hv1]at hvx;simp only[Value.slice.injEq,CT.size,mM]at hvx;obtain⟨rfl,_,_⟩:=hvx;obtain⟨u,hu',hO⟩:=hown;simp at hu';subst hu';rw[hhdr]at hv0;have hxl:xs.length≠0:=λh=>hxs (bS h);rcases hO with⟨⟨ad,rfl⟩,rfl,rfl⟩|⟨b2,o2,cap2,arr,T,fr,fps,rfl,hb,hth,hs,hc,hh,rfl,hl,hr⟩;simp only[Value.slice.injEq]at hv0;omega;have hb:w.heap[b2]?=some (.cells arr T fr):=hb;simp only[Value.slice.injEq,bj,Addr.mk.injEq]at hv0;obtain⟨⟨rfl,rfl,_⟩,hyl,rfl⟩:=hv0;simp only[CT.size,mM]at hs hh hr;have hh:g.hw b2=o2+ys.length:=hh;have hlo':lo.toNat=n:=by omega
 have hmin:Nat.min s.length xs.length<=xs.length:=Nat.min_le_right _ _;have hfit:n+(dD (s.take xs.length)).length<=ys.length:=by rw[hzl];omega
 have hfitA:o2+n+((dD (s.take xs.length)).map (Value.int .u8)).length<=arr.size:=by rw[cI];omega
 have hst:=uv P b2 (o2+n) T fr ((dD (s.take xs.length)).map (Value.int .u8)) 0 w arr hb hth (by simpa using hfitA) (by simp[Value.oneCell']);simp only[dQ]at hst;have hbs:=lI hb;refine key _ hst ⟨rfl,rfl,rfl,by rw[lh];exact aR _,λc _ hc=>mh (λe=>hc (.inr (by simp[e])))⟩ (lh ..) ?_;rw[hlo'];have hlen:=Oj hfit;refine⟨_,rfl,.inr ⟨b2,o2,cap2,_,T,fr,fps,by rw[hlen],uW hbs,λj hj=>hth j (by rwa[iL]at hj),by rw[iL];simpa[CT.size]using hs,by rw[hlen];exact hc,by rw[hlen];simpa[CT.size]using hh,rfl,by rw[hlen];exact hl,?_⟩⟩;intro i q f hq hf;simp only[CT.size,mM];have hil:i<ys.length:=by have:=(aA.1 hq).1;omega
 have hold:=hr i ys[i] f (al hil) hf;refine⟨?_,hold.2⟩;have hcell:(eY arr (o2+n) ((dD (s.take xs.length)).map (Value.int .u8))).toList[o2+i]?=some (.int .u8 q):=by
  rw[wg hfitA];rw[Xx hfit]at hq;simp only[cI];by_cases hin:n<=i/\i<n+(dD (s.take xs.length)).length;rw[aH hin]at hq;rw[zip,show o2+i-(o2+n)=i-n by omega,List.getElem?_map,hq];rfl;rw[aI hin]at hq;rw[jR];have h1:=hold.1;have h2:((arr.toList.drop (o2+i)).take 1)[0]?=some (.int .u8 ys[i]):=by rw[h1];rfl
  rw[jn]at h2;simp only[Nat.zero_lt_one,bU,dQ]at h2;rw[al hil]at hq;simp at hq;rw[h2,hq]
 have hlt:o2+i<(eY arr (o2+n) ((dD (s.take xs.length)).map (Value.int .u8))).toList.length:=(aA.1 hcell).1;rw[cg hlt];have:=(aA.1 hcell).2;simp[this];cases hk;cases hk;cases hk;cases hk
def Ut (P:Program)(l:ax ((Nat×Nat)×Nat)):Prop:=∀S f T,QV l S f=some T->∀fs fd,P.underlying S=some (.struct fs)->fs[f]?=some fd->fd.type=T
def ftB (P:Program)(x:(Nat×Nat)×Nat):Bool:=
 match P.underlying x.1.1 with
 |some (.struct fs)=>match fs[x.1.2]? with|some fd=>fd.type==x.2|none=>true
 |_=>true
theorem QW {P:Program}:∀{l:ax ((Nat×Nat)×Nat)},(l.all (ftB P))=true->Ut P l
 |[],_,S,f,T,h=>by simp[QV]at h
 |((u,k),U)::l,hl,S,f,T,h=>by
  simp only[cr,ae]at hl;simp only[QV]at h;cases hu:(u==S&&k==f)with
  |true=>rw[hu]at h;simp at h hu;obtain⟨rfl,rfl⟩:=hu;subst h;intro fs fd hS hf;have:=hl.1;simp only[ftB,hS,hf]at this;simpa using this
  |false=>rw[hu]at h;exact QW hl.2 S f T h
theorem Z5 {T:TypeId}{sh:Shape}(hT:YC P T sh)(cs:iS)(off:Nat)(hfit:off+sh.ct.size<=cs.length): ∃v,(part T cs.toArray off).run P w=.ok v w/\Cut sh.agg v ((cs.drop off).take sh.ct.size):=by
 obtain⟨i,z,hi,hsz,_⟩:=hT.elem.info;cases hag:sh.agg with
 |true=>obtain⟨fs,hu,_⟩:=hT.agg hag;refine⟨.agg (cs.toArray.extract off (off+sh.ct.size)),?_,?_⟩;simp only[part,isAgg,sizeOf,typeInfo,underlying,Sem.run_bind,run_program,hu,hi,Result.andThen_ok,Sem.run_pure,hsz,bU,Sem.run_ite];simp only[Cut,bU];congr 1;apply fE;simp[List.take_drop]
 |false=>
  have h1:sh.ct.size=1:=by cases hct:sh.ct with|pair a b=>have:=hT.pair a b hct;rw[hag]at this;cases this|_=>rfl
  rw[h1]at hfit⊢;have hlt:off<cs.length:=by omega
  refine⟨cs[off],?_,?_⟩;have hnu:∃d,P.underlying T=some d/\(match d with| .struct _| .array _ _=>True|_=>False)=False:=by cases hct:sh.ct with|pair a b=>have:=hT.pair a b hct;rw[hag]at this;cases this|int k=>exact⟨_,hT.int k hct hag,rfl⟩|bool=>exact⟨_,hT.bool hct hag,rfl⟩|str=>exact⟨_,hT.str hct hag,rfl⟩|sl e=>obtain⟨te,hu,_⟩:=hT.sl e hct hag;exact⟨_,hu,rfl⟩
  obtain⟨d,hu,hd⟩:=hnu;simp only[part,isAgg,underlying,Sem.run_bind,run_program,hu,Result.andThen_ok,Sem.run_pure];cases d<;>simp at hd<;>simp[al hlt];simp only[Cut,ba,cl];rw[cg hlt];rfl
theorem PJ {E:Env}(hE:jr P E.ty)(hF:Ut P E.fts){o:Oper}{S:TypeId}{t f:Nat}(ho:o.op=.field S (.tmp t) f)(h:nz C st a w){K:AS->aB R}(hk:Cn E o S t f st K=some r):mj P C o a w K r:=by
 obtain⟨g,h⟩:=h;unfold Cn at hk;split at hk;rename_i ct offs cs T hS hg hT;split at hk;rename_i fo n sh hoff hsh;split at hk;rename_i hc;obtain⟨rfl,hcl,hfit⟩:=hc;obtain⟨fs,hu,hfs⟩:=(hE S _ hS).agg rfl;rw[dX]at hoff;obtain⟨fd,hfd,hoffs,hn,i,hi,hsz⟩:=hfs f fo _ hoff;have hty:=hF S f T hT fs fd hu hfd;have htl:t<st.slots.length:=by
  rcases ca t st.slots.length with hlt|hge;exact hlt;have:st.get t=.bot:=by simp[AS.get,dX,bH hge]
  rw[this]at hg;cases hg
 obtain⟨fp,hr,hnd,hl⟩:=h.slot t;rw[hg]at hr;obtain⟨vs,hcut,hr⟩:=hr;have hlen:=hr.length;obtain⟨v,hpart,hcutv⟩:=Z5 (P:=P) (w:=w) (hE T sh hsh) vs fo (by omega);have hrun:(execOp a.eval o).run P w=.ok (.value v) w:=by
  have he:a.eval (.tmp t)=.agg vs.toArray:=by simp only[Cut,bU]at hcut;exact hcut
  simp only[execOp,ho,he,Instr.field,underlying,Sem.run_bind,run_program,hu,Result.andThen_ok,Sem.run_pure,hfd,asAgg,hoffs,hty,hpart]
 obtain⟨f1,f2,f3,rfl,r1,r2,r3⟩:=hr.mid fo sh.ct.size;have hnd':=hnd;rw[aN]at hnd';have n1:=aK.1 hnd';have n2:=aK.1 n1.2.1;let av':AV:=.val true (eK cs fo (aV st.ep ((cs.drop fo).take sh.ct.size)));let st':AS:=st.put (some t) av';let g':Gh:={g with lab:=λb=>if b∈f2 then some (.hand 0) else g.lab b}
 have hle:(cW C g st w).Le (cW C g' st' w):=by have:= @Oc C g st w (some t) av';exact⟨this.A,this.hdr,this.cellA,this.ep,this.pres,this.prot⟩
 have hlk:∀b y,g.lab b=some y->b∉f2->g'.lab b=some y:=by intro b y hb hm;show(if b∈f2 then _ else _)=_;rw[aI hm];exact hb
 have hnot:∀b y,y≠ .slot t->g.lab b=some y->b∉f2:=λb y hy hb hm=>hy (by have:=hl b (by simp[hm]);rw[hb]at this;simpa using this);have hspl:bO (cW C g' st' w) vs (eK cs fo (aV st.ep ((cs.drop fo).take sh.ct.size))) (f1++f3):=by
  have hbl:(aV st.ep ((cs.drop fo).take sh.ct.size)).length=sh.ct.size:=by simp[aV];omega
  have e:vs=vs.take fo++(vs.drop fo).take sh.ct.size++vs.drop (fo+sh.ct.size):=by rw[aN,<-fj,cy,cy]
  have:=bO.append (bO.append (r1.mono hle (λb _=>⟨rfl,rfl⟩)) ((r2.aV).mono hle (by simp))) (r3.mono hle (λb _=>⟨rfl,rfl⟩));rw[<-e,bN]at this;rw[eK,hbl];exact this
 have hsim:ew C g' st' a w [(v,.val sh.agg ((cs.drop fo).take sh.ct.size))]:=by
  refine h.step (λy=>y≠ .slot t) hle h.defers (by show _=(st.put (some t) av').slots.length;rw[gk,az];exact h.size) (by show(st.put (some t) av').boxes.length=(st.put (some t) av').slots.length;rw[kx,gk,az];exact h.bsize) h.frame ?_ (λb y hy hb=>⟨hlk b y hb (hnot b y hy hb),rfl,rfl⟩) ?_ ?_ ?_ (.inl ⟨by simp,FL⟩);intro b y hy;have hy':(if b∈f2 then some (jT.hand 0) else g.lab b)=some y:=hy;by_cases hm:b∈f2;exact h.labs b _ (hl b (by simp[hm]));rw[aI hm]at hy';exact h.labs b y hy';intro j bv hj;have hj':(st.slots.set t av')[j]?=some bv:=by rw[<-gk];exact hj
  by_cases hjt:j=t;subst hjt;rw[bC]at hj';simp only[bU,htl]at hj';simp at hj';subst hj';refine .inr ⟨f1++f3,⟨vs,hcut,hspl⟩,?_,?_⟩;refine aK.2 ⟨n1.1,n2.2.1,?_⟩;rintro b hb c hc rfl;exact n1.2.2 b hb b (bg _ hc) rfl;intro b hb;refine hlk b _ (hl b (by rcases aw.1 hb with k|k<;>simp[k])) (λhm=>?_);rcases aw.1 hb with k|k;exact n1.2.2 b k b (bA _ hm) rfl;exact n2.2.2 b hm b k rfl;rw[aF (cc hjt)]at hj';exact .inl ⟨by simpa using hjt,hj',rfl⟩;intro s cs' hb;have hb':st.boxes[s]?=some (some cs'):=by rw[<-kx (d:=some t) (v:=av')];exact hb
  exact .inl ⟨by simp,hb',rfl⟩;intro k u bv hk';cases k with
  |zero=>simp only[cH,bj,Prod.mk.injEq]at hk';obtain⟨rfl,rfl⟩:=hk';refine .inr ⟨f2,⟨_,hcutv,r2.mono hle (λb _=>⟨rfl,rfl⟩)⟩,n2.1,λb hb=>?_⟩;show(if b∈f2 then _ else _)=_;rw[aH hb]
  |succ k=>simp at hk'
 exact⟨v,w,_,.inl hrun,ew.Ay hsim o.dst,hk⟩;cases hk;cases hk;cases hk
end Go.Dn
