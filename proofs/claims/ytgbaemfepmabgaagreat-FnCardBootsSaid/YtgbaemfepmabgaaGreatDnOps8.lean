import Derived.Test.YtgbaemfepmabgaaGreatDnOps7
/- Part 8: copy, and fields of structs in slots. -/
namespace Go.Dn
open Go.RowKit
variable {P:Program} {C:Ctx} {st:AS} {a:Act} {w:World} {R:Type} {r:R}
variable {lo:Nat} {ys:bZ}
theorem RG {zs:bZ}(h:lo+zs.length<=ys.length):(BO ys lo zs).length=ys.length:=by simp[BO];omega
theorem abS {zs:bZ}(h:lo+zs.length<=ys.length)(j:Nat):(BO ys lo zs)[j]?=if lo<=j/\j<lo+zs.length then zs[j-lo]? else ys[j]?:=by
 unfold BO;have hl:(ys.take lo).length=lo:=by simp;omega
 by_cases h1:j<lo;rw[nf,bD (by omega),dV,aE h1];rw[bA (by omega),hl];by_cases h2:j<lo+zs.length;rw[zip,bD (by omega)];rw[nf,bA (by omega),bU];congr 1;omega
theorem abT:BO ys lo []=ys:=by simp[BO]
theorem aaC {o:Oper}{s x:Operand}{t t':TypeId}(ho:o.op=.call {callee:=.builtin .copy,args:=#[s,x],argTypes:=#[t,t']}){v:Value}{w':World}(h:(Builtin.copy_ #[t,t'] o.type #[a.eval s,a.eval x]).run P w=.ok v w'):(execOp a.eval o).run P w=.ok (.value v) w':=by
 have e1:(#[s,x]:Array Operand).map a.eval=#[a.eval s,a.eval x]:=by simp
 simp only[execOp,ho,resolve,e1,Sem.run_bind,Sem.run_pure,Result.andThen_ok,invoke,builtin];show((Builtin.copy_ #[t,t'] o.type #[a.eval s,a.eval x]).run P w).andThen _=_;rw[h];rfl
theorem aau {E:Env}(hE:jA P E.ty){o:Oper}{args:Array Operand}{ts:Array TypeId}(ho:o.op=.call {callee:=.builtin .copy,args,argTypes:=ts})(h:oa C st a w){K:AS->az R}(hk:N9 E o ts.toList args.toList st K=some r):mL P C o a w K r:=by
 obtain⟨g,hg⟩:=h;unfold N9 at hk;split at hk;rename_i t t' ep rt tg lo e xs s hts hargs;obtain⟨x,y,rfl,hx,hy⟩:=Nj hargs;have et:ts=#[t,t']:=by apply fG;simpa using hts
 subst et;split at hk;rename_i tg' e' ys hget;split at hk;rename_i hee;subst hee;split at hk;rename_i hc;obtain⟨rfl,hT,hT',hep,rfl⟩:=hc;simp only at hk;have hxv:=hg.rd x;rw[hx]at hxv;have hxc:=eU hxv;have hyv:=hg.rd y;rw[hy]at hyv;have hsv:=(eU hyv).1;obtain⟨te,hu,⟨⟨inf,z,hinf,hsz,_⟩,_⟩⟩:=DW hE hT;have hsz1:inf.size=1:=hsz;obtain⟨v0,f2,hrel,hn2,hl2,hfin⟩:=hg.RQ rt (by simp) hget;obtain⟨_,_,⟨o1,n1,k1,hv1,hn1⟩,hpart⟩:=hxc;obtain⟨hiss,hpart⟩:=hpart hep;have hm:(s.take xs.length).length=Nat.min s.length xs.length:=by simp[Nat.min_comm]
 have hzl:(du (s.take xs.length)).length=Nat.min s.length xs.length:=by rw[du,bP,hm]
 have hcells:((ByteArray.mk s.toArray).extract 0 (Nat.min s.length xs.length)).data.map (λb=>Value.int .u8 b.toNat)=((du (s.take xs.length)).map (Value.int .u8)).toArray:=by
  rw[extract_mk];simp only[fi,du,List.map_map];have:s.take (Nat.min s.length xs.length)=s.take xs.length:=by show s.take (min s.length xs.length)=_;rcases Nat.le_total s.length xs.length with h|h;rw[iu h,cd (bh _),cd h];rw[Nat.min_eq_right h]
  rw[this];simp;rfl
 have hN:(Nat.min xs.length s.length:Nat)=Nat.min s.length xs.length:=Nat.min_comm _ _
 have hrun:∀w',(match o1 with|some ad=>(storeCells ad ((du (s.take xs.length)).map (Value.int .u8))).run P w=.ok () w'|none=>w'=w)->
  (execOp a.eval o).run P w=.ok (.value (.int .i64 (Nat.min xs.length s.length:Nat))) w':=by
  intro w' hw
  refine aaC ho ?_
  rw[hv1,hn1,hsv,hN]
  simp only[Builtin.copy_]
  simp only[underlying,Sem.run_bind,run_program,hu,Result.andThen_ok,Sem.run_pure,List.getElem?_toArray,cA,fA,Builtin.lenOf,sizeOf,typeInfo,hinf,Builtin.firstCells,xi,hcells]
  cases o1 with
  |none=>simp only at hw;subst hw;simp[goInt]
  |some ad=>simp only at hw;simp[hw,goInt]
 have key:∀w',(match o1 with|some ad=>(storeCells ad ((du (s.take xs.length)).map (Value.int .u8))).run P w=.ok () w'|none=>w'=w)->Fr (λb=>ed (g.lab b)\/b∈f2) w w'->w'.heap.size=w.heap.size->
  fM g.hw w' (.sl (.int .u8)) [v0] (BO ys lo.toNat (du (s.take xs.length))) f2->mL P C o a w K r:=by
  intro w' hw hfr hsz' hown
  obtain⟨g',hg'⟩:=hfin w' g.hw (.sl (.own (some tg')) (.int .u8) (BO ys lo.toNat (du (s.take xs.length)))) f2 (λc' hle hcw hchw=>⟨by rw[hcw,hchw];exact hown,λt ht=>by have h1:=hrel.2 t ht;exact⟨(hle.hdr t h1.1).1,by rw[(hle.hdr t h1.1).2];exact h1.2⟩⟩) hn2 (λb hb=>⟨by rw[hsz'];exact(hg.labs b _ (hl2 b hb)).1,.inl hb⟩) hfr (λ_ _ _ _ _=>rfl)
  exact⟨_,_,_,.inl (hrun w' hw),⟨g',hg'.quiet o.dst (av:=.one (.int .i64 (min xs.length s.length:Nat))) (mF (kq _ _ _))⟩,hk⟩
 have hv0:v0=g.hdr tg':=(hrel.2 tg' rfl).2;have hown:=hrel.1;by_cases hxs:xs=[]
 subst hxs;have hz:du (s.take ([]:bZ).length)=[]:=by simp[du]
 rw[hz]at key;refine key w ?_ (Fr.refl _ _) rfl (by rw[abT];exact hown);cases o1 with|none=>rfl|some ad=>simp[storeCells]
 rcases hpart with rfl|⟨n,b,o0,len,cap,k2,hlo,hhdr,hle,hvx⟩;exact absurd rfl hxs;have hhdr:g.hdr tg'=.slice (some ⟨b,o0,none⟩) len cap:=hhdr;rw[hv1]at hvx;simp only[Value.slice.injEq,CT.size,ni]at hvx;obtain⟨rfl,_,_⟩:=hvx;obtain⟨u,hu',hO⟩:=hown;simp at hu';subst hu';rw[hhdr]at hv0;have hxl:xs.length≠0:=λh=>hxs (cp h);rcases hO with⟨⟨ad,rfl⟩,rfl,rfl⟩|⟨b2,o2,cap2,arr,T,fr,fps,rfl,hb,hth,hs,hc,hh,rfl,hl,hr⟩;simp only[Value.slice.injEq]at hv0;omega;have hb:w.heap[b2]?=some (.cells arr T fr):=hb;simp only[Value.slice.injEq,br,Addr.mk.injEq]at hv0;obtain⟨⟨rfl,rfl,_⟩,hyl,rfl⟩:=hv0;simp only[CT.size,ni]at hs hh hr;have hh:g.hw b2=o2+ys.length:=hh;have hlo':lo.toNat=n:=by omega
 have hmin:Nat.min s.length xs.length<=xs.length:=Nat.min_le_right _ _;have hfit:n+(du (s.take xs.length)).length<=ys.length:=by rw[hzl];omega
 have hfitA:o2+n+((du (s.take xs.length)).map (Value.int .u8)).length<=arr.size:=by rw[bP];omega
 have hst:=vX P b2 (o2+n) T fr ((du (s.take xs.length)).map (Value.int .u8)) 0 w arr hb hth (by simpa using hfitA) (by simp[Value.oneCell']);simp only[eG]at hst;have hbs:=mq hb;refine key _ hst ⟨rfl,rfl,rfl,by rw[lM];exact bh _,λc _ hc=>mI (λe=>hc (.inr (by simp[e])))⟩ (lM ..) ?_;rw[hlo'];have hlen:=RG hfit;refine⟨_,rfl,.inr ⟨b2,o2,cap2,_,T,fr,fps,by rw[hlen],wM hbs,λj hj=>hth j (by rwa[iP]at hj),by rw[iP];simpa[CT.size]using hs,by rw[hlen];exact hc,by rw[hlen];simpa[CT.size]using hh,rfl,by rw[hlen];exact hl,?_⟩⟩;intro i q f hq hf;simp only[CT.size,ni];have hil:i<ys.length:=by have:=(aC.1 hq).1;omega
 have hold:=hr i ys[i] f (al hil) hf;refine⟨?_,hold.2⟩;have hcell:(eX arr (o2+n) ((du (s.take xs.length)).map (Value.int .u8))).toList[o2+i]?=some (.int .u8 q):=by
  rw[xR hfitA];rw[abS hfit]at hq;simp only[bP];by_cases hin:n<=i/\i<n+(du (s.take xs.length)).length;rw[aE hin]at hq;rw[zip,show o2+i-(o2+n)=i-n by omega,List.getElem?_map,hq];rfl;rw[aD hin]at hq;rw[nf];have h1:=hold.1;have h2:((arr.toList.drop (o2+i)).take 1)[0]?=some (.int .u8 ys[i]):=by rw[h1];rfl
  rw[jx]at h2;simp only[Nat.zero_lt_one,cg,eG]at h2;rw[al hil]at hq;simp at hq;rw[h2,hq]
 have hlt:o2+i<(eX arr (o2+n) ((du (s.take xs.length)).map (Value.int .u8))).toList.length:=(aC.1 hcell).1;rw[ca hlt];have:=(aC.1 hcell).2;simp[this];cases hk;cases hk;cases hk;cases hk
def Yv (P:Program)(l:aw ((Nat×Nat)×Nat)):Prop:=∀S f T,UF l S f=some T->∀fs fd,P.underlying S=some (.struct fs)->fs[f]?=some fd->fd.type=T
def ftB (P:Program)(x:(Nat×Nat)×Nat):Bool:=
 match P.underlying x.1.1 with
 |some (.struct fs)=>match fs[x.1.2]? with|some fd=>fd.type==x.2|none=>true
 |_=>true
theorem UG {P:Program}:∀{l:aw ((Nat×Nat)×Nat)},(l.all (ftB P))=true->Yv P l
 |[],_,S,f,T,h=>by simp[UF]at h
 |((u,k),U)::l,hl,S,f,T,h=>by
  simp only[ch,ae]at hl;simp only[UF]at h;cases hu:(u==S&&k==f)with
  |true=>rw[hu]at h;simp at h hu;obtain⟨rfl,rfl⟩:=hu;subst h;intro fs fd hS hf;have:=hl.1;simp only[ftB,hS,hf]at this;simpa using this
  |false=>rw[hu]at h;exact UG hl.2 S f T h
theorem aex {T:TypeId}{sh:Shape}(hT:acX P T sh)(cs:iS)(off:Nat)(hfit:off+sh.ct.size<=cs.length): ∃v,(part T cs.toArray off).run P w=.ok v w/\Cut sh.agg v ((cs.drop off).take sh.ct.size):=by
 obtain⟨i,z,hi,hsz,_⟩:=hT.elem.info;cases hag:sh.agg with
 |true=>obtain⟨fs,hu,_⟩:=hT.agg hag;refine⟨.agg (cs.toArray.extract off (off+sh.ct.size)),?_,?_⟩;simp only[part,isAgg,sizeOf,typeInfo,underlying,Sem.run_bind,run_program,hu,hi,Result.andThen_ok,Sem.run_pure,hsz,cg,Sem.run_ite];simp only[Cut,cg];congr 1;apply fG;simp[List.take_drop]
 |false=>
  have h1:sh.ct.size=1:=by cases hct:sh.ct with|pair a b=>have:=hT.pair a b hct;rw[hag]at this;cases this|_=>rfl
  rw[h1]at hfit⊢;have hlt:off<cs.length:=by omega
  refine⟨cs[off],?_,?_⟩;have hnu:∃d,P.underlying T=some d/\(match d with| .struct _| .array _ _=>True|_=>False)=False:=by cases hct:sh.ct with|pair a b=>have:=hT.pair a b hct;rw[hag]at this;cases this|int k=>exact⟨_,hT.int k hct hag,rfl⟩|bool=>exact⟨_,hT.bool hct hag,rfl⟩|str=>exact⟨_,hT.str hct hag,rfl⟩|sl e=>obtain⟨te,hu,_⟩:=hT.sl e hct hag;exact⟨_,hu,rfl⟩
  obtain⟨d,hu,hd⟩:=hnu;simp only[part,isAgg,underlying,Sem.run_bind,run_program,hu,Result.andThen_ok,Sem.run_pure];cases d<;>simp at hd<;>simp[al hlt];simp only[Cut,bj,cu];rw[ca hlt];rfl
theorem S7 {E:Env}(hE:jA P E.ty)(hF:Yv P E.fts){o:Oper}{S:TypeId}{t f:Nat}(ho:o.op=.field S (.tmp t) f)(h:oa C st a w){K:AS->az R}(hk:Eh E o S t f st K=some r):mL P C o a w K r:=by
 obtain⟨g,h⟩:=h;unfold Eh at hk;split at hk;rename_i ct offs cs T hS hg hT;split at hk;rename_i fo n sh hoff hsh;split at hk;rename_i hc;obtain⟨rfl,hcl,hfit⟩:=hc;obtain⟨fs,hu,hfs⟩:=(hE S _ hS).agg rfl;rw[ei]at hoff;obtain⟨fd,hfd,hoffs,hn,i,hi,hsz⟩:=hfs f fo _ hoff;have hty:=hF S f T hT fs fd hu hfd;have htl:t<st.slots.length:=by
  rcases cq t st.slots.length with hlt|hge;exact hlt;have:st.get t=.bot:=by simp[AS.get,ei,bG hge]
  rw[this]at hg;cases hg
 obtain⟨fp,hr,hnd,hl⟩:=h.slot t;rw[hg]at hr;obtain⟨vs,hcut,hr⟩:=hr;have hlen:=hr.length;obtain⟨v,hpart,hcutv⟩:=aex (P:=P) (w:=w) (hE T sh hsh) vs fo (by omega);have hrun:(execOp a.eval o).run P w=.ok (.value v) w:=by
  have he:a.eval (.tmp t)=.agg vs.toArray:=by simp only[Cut,cg]at hcut;exact hcut
  simp only[execOp,ho,he,Instr.field,underlying,Sem.run_bind,run_program,hu,Result.andThen_ok,Sem.run_pure,hfd,asAgg,hoffs,hty,hpart]
 obtain⟨f1,f2,f3,rfl,r1,r2,r3⟩:=hr.mid fo sh.ct.size;have hnd':=hnd;rw[aZ]at hnd';have n1:=aO.1 hnd';have n2:=aO.1 n1.2.1;let av':AV:=.val true (eQ cs fo (bc st.ep ((cs.drop fo).take sh.ct.size)));let st':AS:=st.put (some t) av';let g':Gh:={g with lab:=λb=>if b∈f2 then some (.hand 0) else g.lab b}
 have hle:(dc C g st w).Le (dc C g' st' w):=by have:= @Rv C g st w (some t) av';exact⟨this.A,this.hdr,this.cellA,this.ep,this.pres,this.prot⟩
 have hlk:∀b y,g.lab b=some y->b∉f2->g'.lab b=some y:=by intro b y hb hm;show(if b∈f2 then _ else _)=_;rw[aD hm];exact hb
 have hnot:∀b y,y≠ .slot t->g.lab b=some y->b∉f2:=λb y hy hb hm=>hy (by have:=hl b (by simp[hm]);rw[hb]at this;simpa using this);have hspl:bR (dc C g' st' w) vs (eQ cs fo (bc st.ep ((cs.drop fo).take sh.ct.size))) (f1++f3):=by
  have hbl:(bc st.ep ((cs.drop fo).take sh.ct.size)).length=sh.ct.size:=by simp[bc];omega
  have e:vs=vs.take fo++(vs.drop fo).take sh.ct.size++vs.drop (fo+sh.ct.size):=by rw[aZ,<-fg,cD,cD]
  have:=bR.append (bR.append (r1.mono hle (λb _=>⟨rfl,rfl⟩)) ((r2.bc).mono hle (by simp))) (r3.mono hle (λb _=>⟨rfl,rfl⟩));rw[<-e,bK]at this;rw[eQ,hbl];exact this
 have hsim:ez C g' st' a w [(v,.val sh.agg ((cs.drop fo).take sh.ct.size))]:=by
  refine h.step (λy=>y≠ .slot t) hle h.defers (by show _=(st.put (some t) av').slots.length;rw[gq,aB];exact h.size) (by show(st.put (some t) av').boxes.length=(st.put (some t) av').slots.length;rw[kH,gq,aB];exact h.bsize) h.frame ?_ (λb y hy hb=>⟨hlk b y hb (hnot b y hy hb),rfl,rfl⟩) ?_ ?_ ?_ (.inl ⟨by simp,H9⟩);intro b y hy;have hy':(if b∈f2 then some (jX.hand 0) else g.lab b)=some y:=hy;by_cases hm:b∈f2;exact h.labs b _ (hl b (by simp[hm]));rw[aD hm]at hy';exact h.labs b y hy';intro j bv hj;have hj':(st.slots.set t av')[j]?=some bv:=by rw[<-gq];exact hj
  by_cases hjt:j=t;subst hjt;rw[bH]at hj';simp only[cg,htl]at hj';simp at hj';subst hj';refine .inr ⟨f1++f3,⟨vs,hcut,hspl⟩,?_,?_⟩;refine aO.2 ⟨n1.1,n2.2.1,?_⟩;rintro b hb c hc rfl;exact n1.2.2 b hb b (bw _ hc) rfl;intro b hb;refine hlk b _ (hl b (by rcases ay.1 hb with k|k<;>simp[k])) (λhm=>?_);rcases ay.1 hb with k|k;exact n1.2.2 b k b (bI _ hm) rfl;exact n2.2.2 b hm b k rfl;rw[aP (cR hjt)]at hj';exact .inl ⟨by simpa using hjt,hj',rfl⟩;intro s cs' hb;have hb':st.boxes[s]?=some (some cs'):=by rw[<-kH (d:=some t) (v:=av')];exact hb
  exact .inl ⟨by simp,hb',rfl⟩;intro k u bv hk';cases k with
  |zero=>simp only[cA,br,Prod.mk.injEq]at hk';obtain⟨rfl,rfl⟩:=hk';refine .inr ⟨f2,⟨_,hcutv,r2.mono hle (λb _=>⟨rfl,rfl⟩)⟩,n2.1,λb hb=>?_⟩;show(if b∈f2 then _ else _)=_;rw[aE hb]
  |succ k=>simp at hk'
 exact⟨v,w,_,.inl hrun,ez.Cn hsim o.dst,hk⟩;cases hk;cases hk;cases hk
end Go.Dn
