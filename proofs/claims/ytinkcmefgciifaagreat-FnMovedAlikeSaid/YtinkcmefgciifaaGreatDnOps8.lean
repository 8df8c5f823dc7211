import Derived.Test.YtinkcmefgciifaaGreatDnOps7
/- Part 8: copy, and fields of structs in slots. -/
namespace Go.Dn
open Go.RowKit
variable {P:Program} {C:Ctx} {st:AS} {a:Act} {w:World} {R:Type} {r:R}
variable {lo:Nat} {ys:cZ}
theorem P7 {zs:cZ}(h:lo+zs.length<=ys.length):(AJ ys lo zs).length=ys.length:=by simp[AJ];omega
theorem aap {zs:cZ}(h:lo+zs.length<=ys.length)(j:Nat):(AJ ys lo zs)[j]?=if lo<=j/\j<lo+zs.length then zs[j-lo]? else ys[j]?:=by
 unfold AJ;have hl:(ys.take lo).length=lo:=by simp;omega
 by_cases h1:j<lo;rw[lv,bB (by omega),dC,aH h1];rw[bm (by omega),hl];by_cases h2:j<lo+zs.length;rw[zip,bB (by omega)];rw[lv,bm (by omega),bH];congr 1;omega
theorem aaq:AJ ys lo []=ys:=by simp[AJ]
theorem YO {o:Oper}{s x:Operand}{t t':TypeId}(ho:o.op=.call {callee:=.builtin .copy,args:=#[s,x],argTypes:=#[t,t']}){v:Value}{w':World}(h:(Builtin.copy_ #[t,t'] o.type #[a.eval s,a.eval x]).run P w=.ok v w'):(execOp a.eval o).run P w=.ok (.value v) w':=by
 have e1:(#[s,x]:Array Operand).map a.eval=#[a.eval s,a.eval x]:=by simp
 simp only[execOp,ho,resolve,e1,Sem.run_bind,Sem.run_pure,Result.andThen_ok,invoke,builtin];show((Builtin.copy_ #[t,t'] o.type #[a.eval s,a.eval x]).run P w).andThen _=_;rw[h];rfl
theorem YH {E:Env}(hE:jk P E.ty){o:Oper}{args:Array Operand}{ts:Array TypeId}(ho:o.op=.call {callee:=.builtin .copy,args,argTypes:=ts})(h:ij C st a w){K:AS->ay R}(hk:Nc E o ts.toList args.toList st K=some r):mz P C o a w K r:=by
 obtain⟨g,hg⟩:=h;unfold Nc at hk;split at hk;rename_i t t' ep rt tg lo e xs s su fT;obtain⟨x,y,rfl,hx,hy⟩:=Ma fT;have et:ts=#[t,t']:=by apply eU;simpa using su
 subst et;split at hk;rename_i tg' e' ys gS;split at hk;rename_i hee;subst hee;split at hk;rename_i hc;obtain⟨rfl,hT,hT',xh,rfl⟩:=hc;simp only at hk;have tI:=hg.rd x;rw[hx]at tI;have hxc:=eC tI;have NI:=hg.rd y;rw[hy]at NI;have hsv:=(eC NI).1;obtain⟨te,hu,⟨⟨inf,z,Aw,tH,_⟩,_⟩⟩:=C4 hE hT;have apc:inf.size=1:=tH;obtain⟨v0,f2,eQ,Cc,yn,qc⟩:=hg.Qf rt (by simp) gS;obtain⟨_,_,⟨o1,n1,k1,hv1,Hx⟩,RY⟩:=hxc;obtain⟨Jq,RY⟩:=RY xh;have hm:(s.take xs.length).length=Nat.min s.length xs.length:=by simp[Nat.min_comm]
 have hzl:(dk (s.take xs.length)).length=Nat.min s.length xs.length:=by rw[dk,cb,hm]
 have Aa:((ByteArray.mk s.toArray).extract 0 (Nat.min s.length xs.length)).data.map (λb=>Value.int .u8 b.toNat)=((dk (s.take xs.length)).map (Value.int .u8)).toArray:=by
  rw[extract_mk];simp only[eZ,dk,List.map_map];have:s.take (Nat.min s.length xs.length)=s.take xs.length:=by show s.take (min s.length xs.length)=_;rcases Nat.le_total s.length xs.length with h|h;rw[gV h,bI (aS _),bI h];rw[Nat.min_eq_right h]
  rw[this];simp;rfl
 have hN:(Nat.min xs.length s.length:Nat)=Nat.min s.length xs.length:=Nat.min_comm _ _
 have ed:∀w',(match o1 with|some ad=>(storeCells ad ((dk (s.take xs.length)).map (Value.int .u8))).run P w=.ok () w'|none=>w'=w)->
  (execOp a.eval o).run P w=.ok (.value (.int .i64 (Nat.min xs.length s.length:Nat))) w':=by
  intro w' hw
  refine YO ho ?_
  rw[hv1,Hx,hsv,hN]
  simp only[Builtin.copy_]
  simp only[underlying,Sem.run_bind,run_program,hu,Result.andThen_ok,Sem.run_pure,List.getElem?_toArray,cv,eM,Builtin.lenOf,sizeOf,typeInfo,Aw,Builtin.firstCells,wc,Aa]
  cases o1 with
  |none=>simp only at hw;subst hw;simp[goInt]
  |some ad=>simp only at hw;simp[hw,goInt]
 have key:∀w',(match o1 with|some ad=>(storeCells ad ((dk (s.take xs.length)).map (Value.int .u8))).run P w=.ok () w'|none=>w'=w)->Fr (λb=>dG (g.ej b)\/b∈f2) w w'->w'.heap.size=w.heap.size->
  fg g.hw w' (.sl (.int .u8)) [v0] (AJ ys lo.toNat (dk (s.take xs.length))) f2->mz P C o a w K r:=by
  intro w' hw jq Zn gO
  obtain⟨g',nE⟩:=qc w' g.hw (.sl (.own (some tg')) (.int .u8) (AJ ys lo.toNat (dk (s.take xs.length)))) f2 (λc' hle QL D0=>⟨by rw[QL,D0];exact gO,λt ht=>by have h1:=eQ.2 t ht;exact⟨(hle.hdr t h1.1).1,by rw[(hle.hdr t h1.1).2];exact h1.2⟩⟩) Cc (λb hb=>⟨by rw[Zn];exact(hg.fY b _ (yn b hb)).1,.inl hb⟩) jq (λ_ _ _ _ _=>rfl)
  exact⟨_,_,_,.inl (ed w' hw),⟨g',nE.quiet o.dst (av:=.one (.int .i64 (min xs.length s.length:Nat))) (mq (ki _ _ _))⟩,hk⟩
 have KW:v0=g.hdr tg':=(eQ.2 tg' rfl).2;have gO:=eQ.1;by_cases hxs:xs=[]
 subst hxs;have hz:dk (s.take ([]:cZ).length)=[]:=by simp[dk]
 rw[hz]at key;refine key w ?_ (Fr.refl _ _) rfl (by rw[aaq];exact gO);cases o1 with|none=>rfl|some ad=>simp[storeCells]
 rcases RY with rfl|⟨n,b,o0,len,cap,k2,hlo,Mz,hle,hvx⟩;exact absurd rfl hxs;have Mz:g.hdr tg'=.slice (some ⟨b,o0,none⟩) len cap:=Mz;rw[hv1]at hvx;simp only[Value.slice.injEq,CT.size,mW]at hvx;obtain⟨rfl,_,_⟩:=hvx;obtain⟨u,PI,hO⟩:=gO;simp at PI;subst PI;rw[Mz]at KW;have hxl:xs.length≠0:=λh=>hxs (bV h);rcases hO with⟨⟨ad,rfl⟩,rfl,rfl⟩|⟨b2,o2,Uu,arr,T,fr,fps,rfl,hb,rz,hs,hc,hh,rfl,hl,hr⟩;simp only[Value.slice.injEq]at KW;omega;have hb:w.heap[b2]?=some (.cells arr T fr):=hb;simp only[Value.slice.injEq,bc,Addr.mk.injEq]at KW;obtain⟨⟨rfl,rfl,_⟩,hyl,rfl⟩:=KW;simp only[CT.size,mW]at hs hh hr;have hh:g.hw b2=o2+ys.length:=hh;have aon:lo.toNat=n:=by omega
 have apb:Nat.min s.length xs.length<=xs.length:=Nat.min_le_right _ _;have gF:n+(dk (s.take xs.length)).length<=ys.length:=by rw[hzl];omega
 have agG:o2+n+((dk (s.take xs.length)).map (Value.int .u8)).length<=arr.size:=by rw[cb];omega
 have mF:=uU P b2 (o2+n) T fr ((dk (s.take xs.length)).map (Value.int .u8)) 0 w arr hb rz (by simpa using agG) (by simp[Value.oneCell']);simp only[dT]at mF;have Eb:=lP hb;refine key _ mF ⟨rfl,rfl,rfl,by rw[lz];exact aS _,λc _ hc=>mx (λe=>hc (.inr (by simp[e])))⟩ (lz ..) ?_;rw[aon];have hlen:=P7 gF;refine⟨_,rfl,.inr ⟨b2,o2,Uu,_,T,fr,fps,by rw[hlen],vD Eb,λj hj=>rz j (by rwa[iz]at hj),by rw[iz];simpa[CT.size]using hs,by rw[hlen];exact hc,by rw[hlen];simpa[CT.size]using hh,rfl,by rw[hlen];exact hl,?_⟩⟩;intro i q f hq hf;simp only[CT.size,mW];have MA:i<ys.length:=by have:=(aG.1 hq).1;omega
 have hold:=hr i ys[i] f (aq MA) hf;refine⟨?_,hold.2⟩;have Au:(eF arr (o2+n) ((dk (s.take xs.length)).map (Value.int .u8))).toList[o2+i]?=some (.int .u8 q):=by
  rw[wP agG];rw[aap gF]at hq;simp only[cb];by_cases ta:n<=i/\i<n+(dk (s.take xs.length)).length;rw[aH ta]at hq;rw[zip,show o2+i-(o2+n)=i-n by omega,List.getElem?_map,hq];rfl;rw[aI ta]at hq;rw[lv];have h1:=hold.1;have h2:((arr.toList.drop (o2+i)).take 1)[0]?=some (.int .u8 ys[i]):=by rw[h1];rfl
  rw[jf]at h2;simp only[Nat.zero_lt_one,bQ,dT]at h2;rw[aq MA]at hq;simp at hq;rw[h2,hq]
 have gY:o2+i<(eF arr (o2+n) ((dk (s.take xs.length)).map (Value.int .u8))).toList.length:=(aG.1 Au).1;rw[bO gY];have:=(aG.1 Au).2;simp[this];cases hk;cases hk;cases hk;cases hk
def Xh (P:Program)(l:ax ((Nat×Nat)×Nat)):Prop:=∀S f T,SB l S f=some T->∀fs fd,P.underlying S=some (.struct fs)->fs[f]?=some fd->fd.type=T
def ftB (P:Program)(x:(Nat×Nat)×Nat):Bool:=
 match P.underlying x.1.1 with
 |some (.struct fs)=>match fs[x.1.2]? with|some fd=>fd.type==x.2|none=>true
 |_=>true
theorem SC {P:Program}:∀{l:ax ((Nat×Nat)×Nat)},(l.all (ftB P))=true->Xh P l
 |[],_,S,f,T,h=>by simp[SB]at h
 |((u,k),U)::l,hl,S,f,T,h=>by
  simp only[cc,ae]at hl;simp only[SB]at h;cases hu:(u==S&&k==f)with
  |true=>rw[hu]at h;simp at h hu;obtain⟨rfl,rfl⟩:=hu;subst h;intro fs fd hS hf;have:=hl.1;simp only[ftB,hS,hf]at this;simpa using this
  |false=>rw[hu]at h;exact SC hl.2 S f T h
theorem adM {T:TypeId}{sh:Shape}(hT:abw P T sh)(cs:iG)(off:Nat)(gF:off+sh.ct.size<=cs.length): ∃v,(part T cs.toArray off).run P w=.ok v w/\Cut sh.agg v ((cs.drop off).take sh.ct.size):=by
 obtain⟨i,z,hi,tH,_⟩:=hT.elem.info;cases JL:sh.agg with
 |true=>obtain⟨fs,hu,_⟩:=hT.agg JL;refine⟨.agg (cs.toArray.extract off (off+sh.ct.size)),?_,?_⟩;simp only[part,isAgg,sizeOf,typeInfo,underlying,Sem.run_bind,run_program,hu,hi,Result.andThen_ok,Sem.run_pure,tH,bQ,Sem.run_ite];simp only[Cut,bQ];congr 1;apply eU;simp[List.take_drop]
 |false=>
  have h1:sh.ct.size=1:=by cases ID:sh.ct with|pair a b=>have:=hT.pair a b ID;rw[JL]at this;cases this|_=>rfl
  rw[h1]at gF⊢;have gY:off<cs.length:=by omega
  refine⟨cs[off],?_,?_⟩;have hnu:∃d,P.underlying T=some d/\(match d with| .struct _| .array _ _=>True|_=>False)=False:=by cases ID:sh.ct with|pair a b=>have:=hT.pair a b ID;rw[JL]at this;cases this|int k=>exact⟨_,hT.int k ID JL,rfl⟩|bool=>exact⟨_,hT.bool ID JL,rfl⟩|str=>exact⟨_,hT.str ID JL,rfl⟩|sl e=>obtain⟨te,hu,_⟩:=hT.sl e ID JL;exact⟨_,hu,rfl⟩
  obtain⟨d,hu,hd⟩:=hnu;simp only[part,isAgg,underlying,Sem.run_bind,run_program,hu,Result.andThen_ok,Sem.run_pure];cases d<;>simp at hd<;>simp[aq gY];simp only[Cut,aY,bW];rw[bO gY];rfl
theorem Rm {E:Env}(hE:jk P E.ty)(hF:Xh P E.fts){o:Oper}{S:TypeId}{t f:Nat}(ho:o.op=.field S (.tmp t) f)(h:ij C st a w){K:AS->ay R}(hk:Ds E o S t f st K=some r):mz P C o a w K r:=by
 obtain⟨g,h⟩:=h;unfold Ds at hk;split at hk;rename_i ct jJ cs T hS hg hT;split at hk;rename_i fo n sh MC hsh;split at hk;rename_i hc;obtain⟨rfl,hcl,gF⟩:=hc;obtain⟨fs,hu,Fk⟩:=(hE S _ hS).agg rfl;rw[dK]at MC;obtain⟨fd,hfd,ajT,hn,i,hi,tH⟩:=Fk f fo _ MC;have hty:=hF S f T hT fs fd hu hfd;have htl:t<st.slots.length:=by
  rcases cd t st.slots.length with gY|yZ;exact gY;have:st.get t=.bot:=by simp[AS.get,dK,bn yZ]
  rw[this]at hg;cases hg
 obtain⟨fp,hr,DA,hl⟩:=h.slot t;rw[hg]at hr;obtain⟨vs,fj,hr⟩:=hr;have hlen:=hr.length;obtain⟨v,RY,ajD⟩:=adM (P:=P) (w:=w) (hE T sh hsh) vs fo (by omega);have ed:(execOp a.eval o).run P w=.ok (.value v) w:=by
  have he:a.eval (.tmp t)=.agg vs.toArray:=by simp only[Cut,bQ]at fj;exact fj
  simp only[execOp,ho,he,Instr.field,underlying,Sem.run_bind,run_program,hu,Result.andThen_ok,Sem.run_pure,hfd,asAgg,ajT,hty,RY]
 obtain⟨f1,f2,f3,rfl,r1,r2,r3⟩:=hr.mid fo sh.ct.size;have PF:=DA;rw[aR]at PF;have n1:=aJ.1 PF;have n2:=aJ.1 n1.2.1;let Mp:AV:=.val true (dZ cs fo (aU st.ep ((cs.drop fo).take sh.ct.size)));let bN:AS:=st.put (some t) Mp;let g':Gh:={g with ej:=λb=>if b∈f2 then some (.hand 0) else g.ej b}
 have hle:(cM C g st w).Le (cM C g' bN w):=by have:= @P0 C g st w (some t) Mp;exact⟨this.A,this.hdr,this.Q7,this.ep,this.Gy,this.aaA⟩
 have T3:∀b y,g.ej b=some y->b∉f2->g'.ej b=some y:=by intro b y hb hm;show(if b∈f2 then _ else _)=_;rw[aI hm];exact hb
 have Jr:∀b y,y≠ .slot t->g.ej b=some y->b∉f2:=λb y hy hb hm=>hy (by have:=hl b (by simp[hm]);rw[hb]at this;simpa using this);have aoA:bD (cM C g' bN w) vs (dZ cs fo (aU st.ep ((cs.drop fo).take sh.ct.size))) (f1++f3):=by
  have hbl:(aU st.ep ((cs.drop fo).take sh.ct.size)).length=sh.ct.size:=by simp[aU];omega
  have e:vs=vs.take fo++(vs.drop fo).take sh.ct.size++vs.drop (fo+sh.ct.size):=by rw[aR,<-eK,cm,cm]
  have:=bD.append (bD.append (r1.mono hle (λb _=>⟨rfl,rfl⟩)) ((r2.aU).mono hle (by simp))) (r3.mono hle (λb _=>⟨rfl,rfl⟩));rw[<-e,bS]at this;rw[dZ,hbl];exact this
 have ahU:dP C g' bN a w [(v,.val sh.agg ((cs.drop fo).take sh.ct.size))]:=by
  refine h.step (λy=>y≠ .slot t) hle h.defers (by show _=(st.put (some t) Mp).slots.length;rw[fM,aC];exact h.size) (by show(st.put (some t) Mp).boxes.length=(st.put (some t) Mp).slots.length;rw[kA,fM,aC];exact h.bsize) h.frame ?_ (λb y hy hb=>⟨T3 b y hb (Jr b y hy hb),rfl,rfl⟩) ?_ ?_ ?_ (.inl ⟨by simp,HF⟩);intro b y hy;have QN:(if b∈f2 then some (jM.hand 0) else g.ej b)=some y:=hy;by_cases hm:b∈f2;exact h.fY b _ (hl b (by simp[hm]));rw[aI hm]at QN;exact h.fY b y QN;intro j bv hj;have Zh:(st.slots.set t Mp)[j]?=some bv:=by rw[<-fM];exact hj
  by_cases hjt:j=t;subst hjt;rw[br]at Zh;simp only[bQ,htl]at Zh;simp at Zh;subst Zh;refine .inr ⟨f1++f3,⟨vs,fj,aoA⟩,?_,?_⟩;refine aJ.2 ⟨n1.1,n2.2.1,?_⟩;rintro b hb c hc rfl;exact n1.2.2 b hb b (bj _ hc) rfl;intro b hb;refine T3 b _ (hl b (by rcases az.1 hb with k|k<;>simp[k])) (λhm=>?_);rcases az.1 hb with k|k;exact n1.2.2 b k b (bt _ hm) rfl;exact n2.2.2 b hm b k rfl;rw[aN (cO hjt)]at Zh;exact .inl ⟨by simpa using hjt,Zh,rfl⟩;intro s qg hb;have gX:st.boxes[s]?=some (some qg):=by rw[<-kA (d:=some t) (v:=Mp)];exact hb
  exact .inl ⟨by simp,gX,rfl⟩;intro k u bv CF;cases k with
  |zero=>simp only[cv,bc,Prod.mk.injEq]at CF;obtain⟨rfl,rfl⟩:=CF;refine .inr ⟨f2,⟨_,ajD,r2.mono hle (λb _=>⟨rfl,rfl⟩)⟩,n2.1,λb hb=>?_⟩;show(if b∈f2 then _ else _)=_;rw[aH hb]
  |succ k=>simp at CF
 exact⟨v,w,_,.inl ed,dP.Bw ahU o.dst,hk⟩;cases hk;cases hk;cases hk
end Go.Dn
