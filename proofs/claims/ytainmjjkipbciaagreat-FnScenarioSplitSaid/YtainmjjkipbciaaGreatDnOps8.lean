import Derived.Test.YtainmjjkipbciaaGreatDnOps7
/- Part 8: copy, and fields of structs in slots. -/
namespace Go.Dn
open Go.RowKit
variable {P:Program} {C:Ctx} {st:AS} {a:Act} {w:World} {R:Type} {r:R}
variable {lo:Nat} {ys:cL}
theorem PX {zs:cL}(h:lo+zs.length<=ys.length):(Aa ys lo zs).length=ys.length:=by simp[Aa];omega
theorem ZW {zs:cL}(h:lo+zs.length<=ys.length)(j:Nat):(Aa ys lo zs)[j]?=if lo<=j/\j<lo+zs.length then zs[j-lo]? else ys[j]?:=by
 unfold Aa;have hl:(ys.take lo).length=lo:=by simp;omega
 by_cases h1:j<lo;rw[lR,bD (by omega),dA,aF h1];rw[bq (by omega),hl];by_cases h2:j<lo+zs.length;rw[zip,bD (by omega)];rw[lR,bq (by omega),bM];congr 1;omega
theorem ZX:Aa ys lo []=ys:=by simp[Aa]
theorem Yg {o:Oper}{s x:Operand}{t t':TypeId}(ho:o.op=.call {callee:=.builtin .copy,args:=#[s,x],argTypes:=#[t,t']}){v:Value}{w':World}(h:(Builtin.copy_ #[t,t'] o.type #[a.eval s,a.eval x]).run P w=.ok v w'):(execOp a.eval o).run P w=.ok (.value v) w':=by
 have e1:(#[s,x]:Array Operand).map a.eval=#[a.eval s,a.eval x]:=by simp
 simp only[execOp,ho,resolve,e1,Sem.run_bind,Sem.run_pure,Result.andThen_ok,invoke,builtin];show((Builtin.copy_ #[t,t'] o.type #[a.eval s,a.eval x]).run P w).andThen _=_;rw[h];rfl
theorem X8 {E:Env}(hE:ja P E.ty){o:Oper}{args:Array Operand}{ts:Array TypeId}(ho:o.op=.call {callee:=.builtin .copy,args,argTypes:=ts})(h:mZ C st a w){K:AS->ax R}(hk:MJ E o ts.toList args.toList st K=some r):lS P C o a w K r:=by
 obtain⟨g,hg⟩:=h;unfold MJ at hk;split at hk;rename_i t t' ep rt tg lo e xs s rH fM;obtain⟨x,y,rfl,hx,hy⟩:=LG fM;have et:ts=#[t,t']:=by apply eQ;simpa using rH
 subst et;split at hk;rename_i tg' e' ys gI;split at hk;rename_i hee;subst hee;split at hk;rename_i hc;obtain⟨rfl,hT,hT',wB,rfl⟩:=hc;simp only at hk;have sW:=hg.rd x;rw[hx]at sW;have hxc:=ej sW;have M9:=hg.rd y;rw[hy]at M9;have hsv:=(ej M9).1;obtain⟨te,hu,⟨⟨inf,z,zO,sV,_⟩,_⟩⟩:=CD hE hT;have aul:inf.size=1:=sV;obtain⟨v0,f2,eK,BL,xE,ph⟩:=hg.P7 rt (by simp) gI;obtain⟨_,_,⟨o1,n1,k1,hv1,GG⟩,R6⟩:=hxc;obtain⟨Is,R6⟩:=R6 wB;have hm:(s.take xs.length).length=Nat.min s.length xs.length:=by simp[Nat.min_comm]
 have hzl:(di (s.take xs.length)).length=Nat.min s.length xs.length:=by rw[di,da,hm]
 have zn:((ByteArray.mk s.toArray).extract 0 (Nat.min s.length xs.length)).data.map (λb=>Value.int .u8 b.toNat)=((di (s.take xs.length)).map (Value.int .u8)).toArray:=by
  rw[extract_mk];simp only[eV,di,List.map_map];have:s.take (Nat.min s.length xs.length)=s.take xs.length:=by show s.take (min s.length xs.length)=_;rcases Nat.le_total s.length xs.length with h|h;rw[gL h,bN (aU _),bN h];rw[Nat.min_eq_right h]
  rw[this];simp;rfl
 have hN:(Nat.min xs.length s.length:Nat)=Nat.min s.length xs.length:=Nat.min_comm _ _
 have ec:∀w',(match o1 with|some ad=>(storeCells ad ((di (s.take xs.length)).map (Value.int .u8))).run P w=.ok () w'|none=>w'=w)->
  (execOp a.eval o).run P w=.ok (.value (.int .i64 (Nat.min xs.length s.length:Nat))) w':=by
  intro w' hw
  refine Yg ho ?_
  rw[hv1,GG,hsv,hN]
  simp only[Builtin.copy_]
  simp only[underlying,Sem.run_bind,run_program,hu,Result.andThen_ok,Sem.run_pure,List.getElem?_toArray,cr,eH,Builtin.lenOf,sizeOf,typeInfo,zO,Builtin.firstCells,vD,zn]
  cases o1 with
  |none=>simp only at hw;subst hw;simp[goInt]
  |some ad=>simp only at hw;simp[hw,goInt]
 have key:∀w',(match o1 with|some ad=>(storeCells ad ((di (s.take xs.length)).map (Value.int .u8))).run P w=.ok () w'|none=>w'=w)->Fr (λb=>dE (g.ef b)\/b∈f2) w w'->w'.heap.size=w.heap.size->
  eZ g.hw w' (.sl (.int .u8)) [v0] (Aa ys lo.toNat (di (s.take xs.length))) f2->lS P C o a w K r:=by
  intro w' hw jf YF gE
  obtain⟨g',mX⟩:=ph w' g.hw (.sl (.own (some tg')) (.int .u8) (Aa ys lo.toNat (di (s.take xs.length)))) f2 (λc' hle QC Ds=>⟨by rw[QC,Ds];exact gE,λt ht=>by have h1:=eK.2 t ht;exact⟨(hle.hdr t h1.1).1,by rw[(hle.hdr t h1.1).2];exact h1.2⟩⟩) BL (λb hb=>⟨by rw[YF];exact(hg.fS b _ (xE b hb)).1,.inl hb⟩) jf (λ_ _ _ _ _=>rfl)
  exact⟨_,_,_,.inl (ec w' hw),⟨g',mX.quiet o.dst (av:=.one (.int .i64 (min xs.length s.length:Nat))) (lK (jM _ _ _))⟩,hk⟩
 have Ks:v0=g.hdr tg':=(eK.2 tg' rfl).2;have gE:=eK.1;by_cases hxs:xs=[]
 subst hxs;have hz:di (s.take ([]:cL).length)=[]:=by simp[di]
 rw[hz]at key;refine key w ?_ (Fr.refl _ _) rfl (by rw[ZX];exact gE);cases o1 with|none=>rfl|some ad=>simp[storeCells]
 rcases R6 with rfl|⟨n,b,o0,len,cap,k2,hlo,L5,hle,hvx⟩;exact absurd rfl hxs;have L5:g.hdr tg'=.slice (some ⟨b,o0,none⟩) len cap:=L5;rw[hv1]at hvx;simp only[Value.slice.injEq,CT.size,my]at hvx;obtain⟨rfl,_,_⟩:=hvx;obtain⟨u,Pv,hO⟩:=gE;simp at Pv;subst Pv;rw[L5]at Ks;have hxl:xs.length≠0:=λh=>hxs (bV h);rcases hO with⟨⟨ad,rfl⟩,rfl,rfl⟩|⟨b2,o2,Uq,arr,T,fr,fps,rfl,hb,qM,hs,hc,hh,rfl,hl,hr⟩;simp only[Value.slice.injEq]at Ks;omega;have hb:w.heap[b2]?=some (.cells arr T fr):=hb;simp only[Value.slice.injEq,ba,Addr.mk.injEq]at Ks;obtain⟨⟨rfl,rfl,_⟩,hyl,rfl⟩:=Ks;simp only[CT.size,my]at hs hh hr;have hh:g.hw b2=o2+ys.length:=hh;have arN:lo.toNat=n:=by omega
 have auj:Nat.min s.length xs.length<=xs.length:=Nat.min_le_right _ _;have gx:n+(di (s.take xs.length)).length<=ys.length:=by rw[hzl];omega
 have agc:o2+n+((di (s.take xs.length)).map (Value.int .u8)).length<=arr.size:=by rw[da];omega
 have lX:=uu P b2 (o2+n) T fr ((di (s.take xs.length)).map (Value.int .u8)) 0 w arr hb qM (by simpa using agc) (by simp[Value.oneCell']);simp only[dT]at lX;have DD:=lp hb;refine key _ lX ⟨rfl,rfl,rfl,by rw[kT];exact aU _,λc _ hc=>lO (λe=>hc (.inr (by simp[e])))⟩ (kT ..) ?_;rw[arN];have hlen:=PX gx;refine⟨_,rfl,.inr ⟨b2,o2,Uq,_,T,fr,fps,by rw[hlen],uW DD,λj hj=>qM j (by rwa[ik]at hj),by rw[ik];simpa[CT.size]using hs,by rw[hlen];exact hc,by rw[hlen];simpa[CT.size]using hh,rfl,by rw[hlen];exact hl,?_⟩⟩;intro i q f hq hf;simp only[CT.size,my];have L6:i<ys.length:=by have:=(aG.1 hq).1;omega
 have hold:=hr i ys[i] f (al L6) hf;refine⟨?_,hold.2⟩;have zM:(ew arr (o2+n) ((di (s.take xs.length)).map (Value.int .u8))).toList[o2+i]?=some (.int .u8 q):=by
  rw[wi agc];rw[ZW gx]at hq;simp only[da];by_cases sv:n<=i/\i<n+(di (s.take xs.length)).length;rw[aF sv]at hq;rw[zip,show o2+i-(o2+n)=i-n by omega,List.getElem?_map,hq];rfl;rw[aH sv]at hq;rw[lR];have h1:=hold.1;have h2:((arr.toList.drop (o2+i)).take 1)[0]?=some (.int .u8 ys[i]):=by rw[h1];rfl
  rw[iX]at h2;simp only[Nat.zero_lt_one,bP,dT]at h2;rw[al L6]at hq;simp at hq;rw[h2,hq]
 have gW:o2+i<(ew arr (o2+n) ((di (s.take xs.length)).map (Value.int .u8))).toList.length:=(aG.1 zM).1;rw[cd gW];have:=(aG.1 zM).2;simp[this];cases hk;cases hk;cases hk;cases hk
def Ww (P:Program)(l:aw ((Nat×Nat)×Nat)):Prop:=∀S f T,SJ l S f=some T->∀fs fd,P.underlying S=some (.struct fs)->fs[f]?=some fd->fd.type=T
def ftB (P:Program)(x:(Nat×Nat)×Nat):Bool:=
 match P.underlying x.1.1 with
 |some (.struct fs)=>match fs[x.1.2]? with|some fd=>fd.type==x.2|none=>true
 |_=>true
theorem SK {P:Program}:∀{l:aw ((Nat×Nat)×Nat)},(l.all (ftB P))=true->Ww P l
 |[],_,S,f,T,h=>by simp[SJ]at h
 |((u,k),U)::l,hl,S,f,T,h=>by
  simp only[cc,ae]at hl;simp only[SJ]at h;cases hu:(u==S&&k==f)with
  |true=>rw[hu]at h;simp at h hu;obtain⟨rfl,rfl⟩:=hu;subst h;intro fs fd hS hf;have:=hl.1;simp only[ftB,hS,hf]at this;simpa using this
  |false=>rw[hu]at h;exact SK hl.2 S f T h
theorem acE {T:TypeId}{sh:Shape}(hT:aaT P T sh)(cs:ir)(off:Nat)(gx:off+sh.ct.size<=cs.length): ∃v,(part T cs.toArray off).run P w=.ok v w/\Cut sh.agg v ((cs.drop off).take sh.ct.size):=by
 obtain⟨i,z,hi,sV,_⟩:=hT.elem.info;cases IS:sh.agg with
 |true=>obtain⟨fs,hu,_⟩:=hT.agg IS;refine⟨.agg (cs.toArray.extract off (off+sh.ct.size)),?_,?_⟩;simp only[part,isAgg,sizeOf,typeInfo,underlying,Sem.run_bind,run_program,hu,hi,Result.andThen_ok,Sem.run_pure,sV,bP,Sem.run_ite];simp only[Cut,bP];congr 1;apply eQ;simp[List.take_drop]
 |false=>
  have h1:sh.ct.size=1:=by cases HH:sh.ct with|pair a b=>have:=hT.pair a b HH;rw[IS]at this;cases this|_=>rfl
  rw[h1]at gx⊢;have gW:off<cs.length:=by omega
  refine⟨cs[off],?_,?_⟩;have hnu:∃d,P.underlying T=some d/\(match d with| .struct _| .array _ _=>True|_=>False)=False:=by cases HH:sh.ct with|pair a b=>have:=hT.pair a b HH;rw[IS]at this;cases this|int k=>exact⟨_,hT.int k HH IS,rfl⟩|bool=>exact⟨_,hT.bool HH IS,rfl⟩|str=>exact⟨_,hT.str HH IS,rfl⟩|sl e=>obtain⟨te,hu,_⟩:=hT.sl e HH IS;exact⟨_,hu,rfl⟩
  obtain⟨d,hu,hd⟩:=hnu;simp only[part,isAgg,underlying,Sem.run_bind,run_program,hu,Result.andThen_ok,Sem.run_pure];cases d<;>simp at hd<;>simp[al gW];simp only[Cut,aW,bX];rw[cd gW];rfl
theorem Rv {E:Env}(hE:ja P E.ty)(hF:Ww P E.fts){o:Oper}{S:TypeId}{t f:Nat}(ho:o.op=.field S (.tmp t) f)(h:mZ C st a w){K:AS->ax R}(hk:CZ E o S t f st K=some r):lS P C o a w K r:=by
 obtain⟨g,h⟩:=h;unfold CZ at hk;split at hk;rename_i ct jv cs T hS hg hT;split at hk;rename_i fo n sh L8 hsh;split at hk;rename_i hc;obtain⟨rfl,hcl,gx⟩:=hc;obtain⟨fs,hu,EL⟩:=(hE S _ hS).agg rfl;rw[dI]at L8;obtain⟨fd,hfd,amQ,hn,i,hi,sV⟩:=EL f fo _ L8;have hty:=hF S f T hT fs fd hu hfd;have htl:t<st.slots.length:=by
  rcases cf t st.slots.length with gW|yt;exact gW;have:st.get t=.bot:=by simp[AS.get,dI,br yt]
  rw[this]at hg;cases hg
 obtain⟨fp,hr,C7,hl⟩:=h.slot t;rw[hg]at hr;obtain⟨vs,fE,hr⟩:=hr;have hlen:=hr.length;obtain⟨v,R6,amA⟩:=acE (P:=P) (w:=w) (hE T sh hsh) vs fo (by omega);have ec:(execOp a.eval o).run P w=.ok (.value v) w:=by
  have he:a.eval (.tmp t)=.agg vs.toArray:=by simp only[Cut,bP]at fE;exact fE
  simp only[execOp,ho,he,Instr.field,underlying,Sem.run_bind,run_program,hu,Result.andThen_ok,Sem.run_pure,hfd,asAgg,amQ,hty,R6]
 obtain⟨f1,f2,f3,rfl,r1,r2,r3⟩:=hr.mid fo sh.ct.size;have Pr:=C7;rw[aP]at Pr;have n1:=aI.1 Pr;have n2:=aI.1 n1.2.1;let LW:AV:=.val true (dZ cs fo (aQ st.ep ((cs.drop fo).take sh.ct.size)));let bK:AS:=st.put (some t) LW;let g':Gh:={g with ef:=λb=>if b∈f2 then some (.hand 0) else g.ef b}
 have hle:(cG C g st w).Le (cG C g' bK w):=by have:= @PN C g st w (some t) LW;exact⟨this.A,this.hdr,this.QZ,this.ep,this.FQ,this.Z5⟩
 have T1:∀b y,g.ef b=some y->b∉f2->g'.ef b=some y:=by intro b y hb hm;show(if b∈f2 then _ else _)=_;rw[aH hm];exact hb
 have It:∀b y,y≠ .slot t->g.ef b=some y->b∉f2:=λb y hy hb hm=>hy (by have:=hl b (by simp[hm]);rw[hb]at this;simpa using this);have ar0:bE (cG C g' bK w) vs (dZ cs fo (aQ st.ep ((cs.drop fo).take sh.ct.size))) (f1++f3):=by
  have hbl:(aQ st.ep ((cs.drop fo).take sh.ct.size)).length=sh.ct.size:=by simp[aQ];omega
  have e:vs=vs.take fo++(vs.drop fo).take sh.ct.size++vs.drop (fo+sh.ct.size):=by rw[aP,<-eF,cb,cb]
  have:=bE.append (bE.append (r1.mono hle (λb _=>⟨rfl,rfl⟩)) ((r2.aQ).mono hle (by simp))) (r3.mono hle (λb _=>⟨rfl,rfl⟩));rw[<-e,bR]at this;rw[dZ,hbl];exact this
 have ah7:dP C g' bK a w [(v,.val sh.agg ((cs.drop fo).take sh.ct.size))]:=by
  refine h.step (λy=>y≠ .slot t) hle h.defers (by show _=(st.put (some t) LW).slots.length;rw[fH,aC];exact h.size) (by show(st.put (some t) LW).boxes.length=(st.put (some t) LW).slots.length;rw[jX,fH,aC];exact h.bsize) h.frame ?_ (λb y hy hb=>⟨T1 b y hb (It b y hy hb),rfl,rfl⟩) ?_ ?_ ?_ (.inl ⟨by simp,GO⟩);intro b y hy;have QE:(if b∈f2 then some (jx.hand 0) else g.ef b)=some y:=hy;by_cases hm:b∈f2;exact h.fS b _ (hl b (by simp[hm]));rw[aH hm]at QE;exact h.fS b y QE;intro j bv hj;have YA:(st.slots.set t LW)[j]?=some bv:=by rw[<-fH];exact hj
  by_cases hjt:j=t;subst hjt;rw[bu]at YA;simp only[bP,htl]at YA;simp at YA;subst YA;refine .inr ⟨f1++f3,⟨vs,fE,ar0⟩,?_,?_⟩;refine aI.2 ⟨n1.1,n2.2.1,?_⟩;rintro b hb c hc rfl;exact n1.2.2 b hb b (bj _ hc) rfl;intro b hb;refine T1 b _ (hl b (by rcases ay.1 hb with k|k<;>simp[k])) (λhm=>?_);rcases ay.1 hb with k|k;exact n1.2.2 b k b (bw _ hm) rfl;exact n2.2.2 b hm b k rfl;rw[aR (cM hjt)]at YA;exact .inl ⟨by simpa using hjt,YA,rfl⟩;intro s po hb;have gM:st.boxes[s]?=some (some po):=by rw[<-jX (d:=some t) (v:=LW)];exact hb
  exact .inl ⟨by simp,gM,rfl⟩;intro k u bv Cg;cases k with
  |zero=>simp only[cr,ba,Prod.mk.injEq]at Cg;obtain⟨rfl,rfl⟩:=Cg;refine .inr ⟨f2,⟨_,amA,r2.mono hle (λb _=>⟨rfl,rfl⟩)⟩,n2.1,λb hb=>?_⟩;show(if b∈f2 then _ else _)=_;rw[aF hb]
  |succ k=>simp at Cg
 exact⟨v,w,_,.inl ec,dP.AW ah7 o.dst,hk⟩;cases hk;cases hk;cases hk
end Go.Dn
