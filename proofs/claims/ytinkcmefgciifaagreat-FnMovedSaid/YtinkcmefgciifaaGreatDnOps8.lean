import Derived.Test.YtinkcmefgciifaaGreatDnOps7
/- Part 8: copy, and fields of structs in slots. -/
namespace Go.Dn
open Go.RowKit
variable {P:Program} {C:Ctx} {st:AS} {a:Act} {w:World} {R:Type} {r:R}
variable {lo:Nat} {ys:cw}
theorem PN {zs:cw}(h:lo+zs.length<=ys.length):(Az ys lo zs).length=ys.length:=by simp[Az];omega
theorem ZR {zs:cw}(h:lo+zs.length<=ys.length)(j:Nat):(Az ys lo zs)[j]?=if lo<=j/\j<lo+zs.length then zs[j-lo]? else ys[j]?:=by
 unfold Az;have hl:(ys.take lo).length=lo:=by simp;omega
 by_cases h1:j<lo;rw[lZ,bz (by omega),dA,aE h1];rw[bq (by omega),hl];by_cases h2:j<lo+zs.length;rw[zip,bz (by omega)];rw[lZ,bq (by omega),bI];congr 1;omega
theorem ZS:Az ys lo []=ys:=by simp[Az]
theorem Yf {o:Oper}{s x:Operand}{t t':TypeId}(ho:o.op=.call {callee:=.builtin .copy,args:=#[s,x],argTypes:=#[t,t']}){v:Value}{w':World}(h:(Builtin.copy_ #[t,t'] o.type #[a.eval s,a.eval x]).run P w=.ok v w'):(execOp a.eval o).run P w=.ok (.value v) w':=by
 have e1:(#[s,x]:Array Operand).map a.eval=#[a.eval s,a.eval x]:=by simp
 simp only[execOp,ho,resolve,e1,Sem.run_bind,Sem.run_pure,Result.andThen_ok,invoke,builtin];show((Builtin.copy_ #[t,t'] o.type #[a.eval s,a.eval x]).run P w).andThen _=_;rw[h];rfl
theorem X7 {E:Env}(hE:jc P E.ty){o:Oper}{args:Array Operand}{ts:Array TypeId}(ho:o.op=.call {callee:=.builtin .copy,args,argTypes:=ts})(h:nq C st a w){K:AS->ax R}(hk:MT E o ts.toList args.toList st K=some r):ma P C o a w K r:=by
 obtain⟨g,hg⟩:=h;unfold MT at hk;split at hk;rename_i t t' ep rt tg lo e xs s rU fN;obtain⟨x,y,rfl,hx,hy⟩:=LV fN;have et:ts=#[t,t']:=by apply eQ;simpa using rU
 subst et;split at hk;rename_i tg' e' ys gK;split at hk;rename_i hee;subst hee;split at hk;rename_i hc;obtain⟨rfl,hT,hT',wN,rfl⟩:=hc;simp only at hk;have tj:=hg.rd x;rw[hx]at tj;have hxc:=ew tj;have Nm:=hg.rd y;rw[hy]at Nm;have hsv:=(ew Nm).1;obtain⟨te,hu,⟨⟨inf,z,Al,ti,_⟩,_⟩⟩:=CS hE hT;have aov:inf.size=1:=ti;obtain⟨v0,f2,eL,AJ,xY,pC⟩:=hg.PZ rt (by simp) gK;obtain⟨_,_,⟨o1,n1,k1,hv1,Fc⟩,RG⟩:=hxc;obtain⟨I5,RG⟩:=RG wN;have hm:(s.take xs.length).length=Nat.min s.length xs.length:=by simp[Nat.min_comm]
 have hzl:(dj (s.take xs.length)).length=Nat.min s.length xs.length:=by rw[dj,da,hm]
 have zP:((ByteArray.mk s.toArray).extract 0 (Nat.min s.length xs.length)).data.map (λb=>Value.int .u8 b.toNat)=((dj (s.take xs.length)).map (Value.int .u8)).toArray:=by
  rw[extract_mk];simp only[dP,dj,List.map_map];have:s.take (Nat.min s.length xs.length)=s.take xs.length:=by show s.take (min s.length xs.length)=_;rcases Nat.le_total s.length xs.length with h|h;rw[gN h,bK (aU _),bK h];rw[Nat.min_eq_right h]
  rw[this];simp;rfl
 have hN:(Nat.min xs.length s.length:Nat)=Nat.min s.length xs.length:=Nat.min_comm _ _
 have ee:∀w',(match o1 with|some ad=>(storeCells ad ((dj (s.take xs.length)).map (Value.int .u8))).run P w=.ok () w'|none=>w'=w)->
  (execOp a.eval o).run P w=.ok (.value (.int .i64 (Nat.min xs.length s.length:Nat))) w':=by
  intro w' hw
  refine Yf ho ?_
  rw[hv1,Fc,hsv,hN]
  simp only[Builtin.copy_]
  simp only[underlying,Sem.run_bind,run_program,hu,Result.andThen_ok,Sem.run_pure,List.getElem?_toArray,cr,dW,Builtin.lenOf,sizeOf,typeInfo,Al,Builtin.firstCells,vO,zP]
  cases o1 with
  |none=>simp only at hw;subst hw;simp[goInt]
  |some ad=>simp only at hw;simp[hw,goInt]
 have key:∀w',(match o1 with|some ad=>(storeCells ad ((dj (s.take xs.length)).map (Value.int .u8))).run P w=.ok () w'|none=>w'=w)->Fr (λb=>dE (g.ej b)\/b∈f2) w w'->w'.heap.size=w.heap.size->
  ff g.hw w' (.sl (.int .u8)) [v0] (Az ys lo.toNat (dj (s.take xs.length))) f2->ma P C o a w K r:=by
  intro w' hw jh YD gG
  obtain⟨g',nm⟩:=pC w' g.hw (.sl (.own (some tg')) (.int .u8) (Az ys lo.toNat (dj (s.take xs.length)))) f2 (λc' hle Qw DQ=>⟨by rw[Qw,DQ];exact gG,λt ht=>by have h1:=eL.2 t ht;exact⟨(hle.hdr t h1.1).1,by rw[(hle.hdr t h1.1).2];exact h1.2⟩⟩) AJ (λb hb=>⟨by rw[YD];exact(hg.fS b _ (xY b hb)).1,.inl hb⟩) jh (λ_ _ _ _ _=>rfl)
  exact⟨_,_,_,.inl (ee w' hw),⟨g',nm.quiet o.dst (av:=.one (.int .i64 (min xs.length s.length:Nat))) (lT (jQ _ _ _))⟩,hk⟩
 have KA:v0=g.hdr tg':=(eL.2 tg' rfl).2;have gG:=eL.1;by_cases hxs:xs=[]
 subst hxs;have hz:dj (s.take ([]:cw).length)=[]:=by simp[dj]
 rw[hz]at key;refine key w ?_ (Fr.refl _ _) rfl (by rw[ZS];exact gG);cases o1 with|none=>rfl|some ad=>simp[storeCells]
 rcases RG with rfl|⟨n,b,o0,len,cap,k2,hlo,Mi,hle,hvx⟩;exact absurd rfl hxs;have Mi:g.hdr tg'=.slice (some ⟨b,o0,none⟩) len cap:=Mi;rw[hv1]at hvx;simp only[Value.slice.injEq,CT.size,mG]at hvx;obtain⟨rfl,_,_⟩:=hvx;obtain⟨u,Pm,hO⟩:=gG;simp at Pm;subst Pm;rw[Mi]at KA;have hxl:xs.length≠0:=λh=>hxs (bS h);rcases hO with⟨⟨ad,rfl⟩,rfl,rfl⟩|⟨b2,o2,T4,arr,T,fr,fps,rfl,hb,qZ,hs,hc,hh,rfl,hl,hr⟩;simp only[Value.slice.injEq]at KA;omega;have hb:w.heap[b2]?=some (.cells arr T fr):=hb;simp only[Value.slice.injEq,aZ,Addr.mk.injEq]at KA;obtain⟨⟨rfl,rfl,_⟩,hyl,rfl⟩:=KA;simp only[CT.size,mG]at hs hh hr;have hh:g.hw b2=o2+ys.length:=hh;have anF:lo.toNat=n:=by omega
 have aot:Nat.min s.length xs.length<=xs.length:=Nat.min_le_right _ _;have gx:n+(dj (s.take xs.length)).length<=ys.length:=by rw[hzl];omega
 have af3:o2+n+((dj (s.take xs.length)).map (Value.int .u8)).length<=arr.size:=by rw[da];omega
 have mi:=uE P b2 (o2+n) T fr ((dj (s.take xs.length)).map (Value.int .u8)) 0 w arr hb qZ (by simpa using af3) (by simp[Value.oneCell']);simp only[dT]at mi;have DZ:=lB hb;refine key _ mi ⟨rfl,rfl,rfl,by rw[kY];exact aU _,λc _ hc=>lW (λe=>hc (.inr (by simp[e])))⟩ (kY ..) ?_;rw[anF];have hlen:=PN gx;refine⟨_,rfl,.inr ⟨b2,o2,T4,_,T,fr,fps,by rw[hlen],vm DZ,λj hj=>qZ j (by rwa[il]at hj),by rw[il];simpa[CT.size]using hs,by rw[hlen];exact hc,by rw[hlen];simpa[CT.size]using hh,rfl,by rw[hlen];exact hl,?_⟩⟩;intro i q f hq hf;simp only[CT.size,mG];have Mj:i<ys.length:=by have:=(aF.1 hq).1;omega
 have hold:=hr i ys[i] f (al Mj) hf;refine⟨?_,hold.2⟩;have Ai:(eC arr (o2+n) ((dj (s.take xs.length)).map (Value.int .u8))).toList[o2+i]?=some (.int .u8 q):=by
  rw[wA af3];rw[ZR gx]at hq;simp only[da];by_cases sJ:n<=i/\i<n+(dj (s.take xs.length)).length;rw[aE sJ]at hq;rw[zip,show o2+i-(o2+n)=i-n by omega,List.getElem?_map,hq];rfl;rw[aH sJ]at hq;rw[lZ];have h1:=hold.1;have h2:((arr.toList.drop (o2+i)).take 1)[0]?=some (.int .u8 ys[i]):=by rw[h1];rfl
  rw[iY]at h2;simp only[Nat.zero_lt_one,bN,dT]at h2;rw[al Mj]at hq;simp at hq;rw[h2,hq]
 have gS:o2+i<(eC arr (o2+n) ((dj (s.take xs.length)).map (Value.int .u8))).toList.length:=(aF.1 Ai).1;rw[bJ gS];have:=(aF.1 Ai).2;simp[this];cases hk;cases hk;cases hk;cases hk
def WI (P:Program)(l:aw ((Nat×Nat)×Nat)):Prop:=∀S f T,Sk l S f=some T->∀fs fd,P.underlying S=some (.struct fs)->fs[f]?=some fd->fd.type=T
def ftB (P:Program)(x:(Nat×Nat)×Nat):Bool:=
 match P.underlying x.1.1 with
 |some (.struct fs)=>match fs[x.1.2]? with|some fd=>fd.type==x.2|none=>true
 |_=>true
theorem Sl {P:Program}:∀{l:aw ((Nat×Nat)×Nat)},(l.all (ftB P))=true->WI P l
 |[],_,S,f,T,h=>by simp[Sk]at h
 |((u,k),U)::l,hl,S,f,T,h=>by
  simp only[cb,ae]at hl;simp only[Sk]at h;cases hu:(u==S&&k==f)with
  |true=>rw[hu]at h;simp at h hu;obtain⟨rfl,rfl⟩:=hu;subst h;intro fs fd hS hf;have:=hl.1;simp only[ftB,hS,hf]at this;simpa using this
  |false=>rw[hu]at h;exact Sl hl.2 S f T h
theorem ada {T:TypeId}{sh:Shape}(hT:aaT P T sh)(cs:iu)(off:Nat)(gx:off+sh.ct.size<=cs.length): ∃v,(part T cs.toArray off).run P w=.ok v w/\Cut sh.agg v ((cs.drop off).take sh.ct.size):=by
 obtain⟨i,z,hi,ti,_⟩:=hT.elem.info;cases Jp:sh.agg with
 |true=>obtain⟨fs,hu,_⟩:=hT.agg Jp;refine⟨.agg (cs.toArray.extract off (off+sh.ct.size)),?_,?_⟩;simp only[part,isAgg,sizeOf,typeInfo,underlying,Sem.run_bind,run_program,hu,hi,Result.andThen_ok,Sem.run_pure,ti,bN,Sem.run_ite];simp only[Cut,bN];congr 1;apply eQ;simp[List.take_drop]
 |false=>
  have h1:sh.ct.size=1:=by cases Ij:sh.ct with|pair a b=>have:=hT.pair a b Ij;rw[Jp]at this;cases this|_=>rfl
  rw[h1]at gx⊢;have gS:off<cs.length:=by omega
  refine⟨cs[off],?_,?_⟩;have hnu:∃d,P.underlying T=some d/\(match d with| .struct _| .array _ _=>True|_=>False)=False:=by cases Ij:sh.ct with|pair a b=>have:=hT.pair a b Ij;rw[Jp]at this;cases this|int k=>exact⟨_,hT.int k Ij Jp,rfl⟩|bool=>exact⟨_,hT.bool Ij Jp,rfl⟩|str=>exact⟨_,hT.str Ij Jp,rfl⟩|sl e=>obtain⟨te,hu,_⟩:=hT.sl e Ij Jp;exact⟨_,hu,rfl⟩
  obtain⟨d,hu,hd⟩:=hnu;simp only[part,isAgg,underlying,Sem.run_bind,run_program,hu,Result.andThen_ok,Sem.run_pure];cases d<;>simp at hd<;>simp[al gS];simp only[Cut,aW,bU];rw[bJ gS];rfl
theorem Q5 {E:Env}(hE:jc P E.ty)(hF:WI P E.fts){o:Oper}{S:TypeId}{t f:Nat}(ho:o.op=.field S (.tmp t) f)(h:nq C st a w){K:AS->ax R}(hk:Dh E o S t f st K=some r):ma P C o a w K r:=by
 obtain⟨g,h⟩:=h;unfold Dh at hk;split at hk;rename_i ct jy cs T hS hg hT;split at hk;rename_i fo n sh Ml hsh;split at hk;rename_i hc;obtain⟨rfl,hcl,gx⟩:=hc;obtain⟨fs,hu,Fa⟩:=(hE S _ hS).agg rfl;rw[dJ]at Ml;obtain⟨fd,hfd,ajd,hn,i,hi,ti⟩:=Fa f fo _ Ml;have hty:=hF S f T hT fs fd hu hfd;have htl:t<st.slots.length:=by
  rcases cc t st.slots.length with gS|yP;exact gS;have:st.get t=.bot:=by simp[AS.get,dJ,bh yP]
  rw[this]at hg;cases hg
 obtain⟨fp,hr,Dr,hl⟩:=h.slot t;rw[hg]at hr;obtain⟨vs,fi,hr⟩:=hr;have hlen:=hr.length;obtain⟨v,RG,aiX⟩:=ada (P:=P) (w:=w) (hE T sh hsh) vs fo (by omega);have ee:(execOp a.eval o).run P w=.ok (.value v) w:=by
  have he:a.eval (.tmp t)=.agg vs.toArray:=by simp only[Cut,bN]at fi;exact fi
  simp only[execOp,ho,he,Instr.field,underlying,Sem.run_bind,run_program,hu,Result.andThen_ok,Sem.run_pure,hfd,asAgg,ajd,hty,RG]
 obtain⟨f1,f2,f3,rfl,r1,r2,r3⟩:=hr.mid fo sh.ct.size;have Ph:=Dr;rw[aR]at Ph;have n1:=aI.1 Ph;have n2:=aI.1 n1.2.1;let L9:AV:=.val true (dZ cs fo (aS st.ep ((cs.drop fo).take sh.ct.size)));let bH:AS:=st.put (some t) L9;let g':Gh:={g with ej:=λb=>if b∈f2 then some (.hand 0) else g.ej b}
 have hle:(cH C g st w).Le (cH C g' bH w):=by have:= @PF C g st w (some t) L9;exact⟨this.A,this.hdr,this.QS,this.ep,this.Gm,this.Z0⟩
 have TF:∀b y,g.ej b=some y->b∉f2->g'.ej b=some y:=by intro b y hb hm;show(if b∈f2 then _ else _)=_;rw[aH hm];exact hb
 have I6:∀b y,y≠ .slot t->g.ej b=some y->b∉f2:=λb y hy hb hm=>hy (by have:=hl b (by simp[hm]);rw[hb]at this;simpa using this);have anS:bB (cH C g' bH w) vs (dZ cs fo (aS st.ep ((cs.drop fo).take sh.ct.size))) (f1++f3):=by
  have hbl:(aS st.ep ((cs.drop fo).take sh.ct.size)).length=sh.ct.size:=by simp[aS];omega
  have e:vs=vs.take fo++(vs.drop fo).take sh.ct.size++vs.drop (fo+sh.ct.size):=by rw[aR,<-eH,cl,cl]
  have:=bB.append (bB.append (r1.mono hle (λb _=>⟨rfl,rfl⟩)) ((r2.aS).mono hle (by simp))) (r3.mono hle (λb _=>⟨rfl,rfl⟩));rw[<-e,bV]at this;rw[dZ,hbl];exact this
 have ahh:dM C g' bH a w [(v,.val sh.agg ((cs.drop fo).take sh.ct.size))]:=by
  refine h.step (λy=>y≠ .slot t) hle h.defers (by show _=(st.put (some t) L9).slots.length;rw[fK,aC];exact h.size) (by show(st.put (some t) L9).boxes.length=(st.put (some t) L9).slots.length;rw[kb,fK,aC];exact h.bsize) h.frame ?_ (λb y hy hb=>⟨TF b y hb (I6 b y hy hb),rfl,rfl⟩) ?_ ?_ ?_ (.inl ⟨by simp,Hm⟩);intro b y hy;have Qy:(if b∈f2 then some (jA.hand 0) else g.ej b)=some y:=hy;by_cases hm:b∈f2;exact h.fS b _ (hl b (by simp[hm]));rw[aH hm]at Qy;exact h.fS b y Qy;intro j bv hj;have Yy:(st.slots.set t L9)[j]?=some bv:=by rw[<-fK];exact hj
  by_cases hjt:j=t;subst hjt;rw[br]at Yy;simp only[bN,htl]at Yy;simp at Yy;subst Yy;refine .inr ⟨f1++f3,⟨vs,fi,anS⟩,?_,?_⟩;refine aI.2 ⟨n1.1,n2.2.1,?_⟩;rintro b hb c hc rfl;exact n1.2.2 b hb b (bj _ hc) rfl;intro b hb;refine TF b _ (hl b (by rcases ay.1 hb with k|k<;>simp[k])) (λhm=>?_);rcases ay.1 hb with k|k;exact n1.2.2 b k b (bt _ hm) rfl;exact n2.2.2 b hm b k rfl;rw[aO (cO hjt)]at Yy;exact .inl ⟨by simpa using hjt,Yy,rfl⟩;intro s pH hb;have gO:st.boxes[s]?=some (some pH):=by rw[<-kb (d:=some t) (v:=L9)];exact hb
  exact .inl ⟨by simp,gO,rfl⟩;intro k u bv Cv;cases k with
  |zero=>simp only[cr,aZ,Prod.mk.injEq]at Cv;obtain⟨rfl,rfl⟩:=Cv;refine .inr ⟨f2,⟨_,aiX,r2.mono hle (λb _=>⟨rfl,rfl⟩)⟩,n2.1,λb hb=>?_⟩;show(if b∈f2 then _ else _)=_;rw[aE hb]
  |succ k=>simp at Cv
 exact⟨v,w,_,.inl ee,dM.Bp ahh o.dst,hk⟩;cases hk;cases hk;cases hk
end Go.Dn
