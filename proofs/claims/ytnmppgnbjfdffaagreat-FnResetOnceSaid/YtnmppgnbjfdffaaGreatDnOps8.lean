import Derived.Test.YtnmppgnbjfdffaaGreatDnOps7
/- Part 8: copy, and fields of structs in slots. -/
namespace Go.Dn
open Go.RowKit
variable {P:Program} {C:Ctx} {st:AS} {a:Act} {w:World} {R:Type} {r:R}
variable {lo:Nat} {ys:cP}
theorem OJ {zs:cP}(h:lo+zs.length<=ys.length):(zH ys lo zs).length=ys.length:=by simp[zH];omega
theorem Yf {zs:cP}(h:lo+zs.length<=ys.length)(j:Nat):(zH ys lo zs)[j]?=if lo<=j/\j<lo+zs.length then zs[j-lo]? else ys[j]?:=by
 unfold zH;have hl:(ys.take lo).length=lo:=by simp;omega
 by_cases h1:j<lo;rw[lF,br (by omega),dz,aF h1];rw[bl (by omega),hl];by_cases h2:j<lo+zs.length;rw[zip,br (by omega)];rw[lF,bl (by omega),bJ];congr 1;omega
theorem Yg:zH ys lo []=ys:=by simp[zH]
theorem WR {o:Oper}{s x:Operand}{t t':TypeId}(ho:o.op=.call {callee:=.builtin .copy,args:=#[s,x],argTypes:=#[t,t']}){v:Value}{w':World}(h:(Builtin.copy_ #[t,t'] o.type #[a.eval s,a.eval x]).run P w=.ok v w'):(execOp a.eval o).run P w=.ok (.value v) w':=by
 have e1:(#[s,x]:Array Operand).map a.eval=#[a.eval s,a.eval x]:=by simp
 simp only[execOp,ho,resolve,e1,Sem.run_bind,Sem.run_pure,Result.andThen_ok,invoke,builtin];show((Builtin.copy_ #[t,t'] o.type #[a.eval s,a.eval x]).run P w).andThen _=_;rw[h];rfl
theorem WK {E:Env}(hE:iY P E.ty){o:Oper}{args:Array Operand}{ts:Array TypeId}(ho:o.op=.call {callee:=.builtin .copy,args,argTypes:=ts})(h:mP C st a w){K:AS->ay R}(hk:L3 E o ts.toList args.toList st K=some r):lH P C o a w K r:=by
 obtain⟨g,hg⟩:=h;unfold L3 at hk;split at hk;rename_i t t' ep rt tg lo e xs s rb fL;obtain⟨x,y,rfl,hx,hy⟩:=KZ fL;have et:ts=#[t,t']:=by apply eO;simpa using rb
 subst et;split at hk;rename_i tg' e' ys gG;split at hk;rename_i hee;subst hee;split at hk;rename_i hc;obtain⟨rfl,hT,hT',vY,rfl⟩:=hc;simp only at hk;have sC:=hg.rd x;rw[hx]at sC;have hxc:=ee sC;have Mt:=hg.rd y;rw[hy]at Mt;have hsv:=(ee Mt).1;obtain⟨te,hu,⟨⟨inf,z,zv,sB,_⟩,_⟩⟩:=Cc hE hT;have amv:inf.size=1:=sB;obtain⟨v0,f2,eI,Bg,xo,oO⟩:=hg.OS rt (by simp) gG;obtain⟨_,_,⟨o1,n1,k1,hv1,Gn⟩,QA⟩:=hxc;obtain⟨Ib,QA⟩:=QA vY;have hm:(s.take xs.length).length=Nat.min s.length xs.length:=by simp[Nat.min_comm]
 have hzl:(di (s.take xs.length)).length=Nat.min s.length xs.length:=by rw[di,cp,hm]
 have yS:((ByteArray.mk s.toArray).extract 0 (Nat.min s.length xs.length)).data.map (λb=>Value.int .u8 b.toNat)=((di (s.take xs.length)).map (Value.int .u8)).toArray:=by
  rw[extract_mk];simp only[eD,di,List.map_map];have:s.take (Nat.min s.length xs.length)=s.take xs.length:=by show s.take (min s.length xs.length)=_;rcases Nat.le_total s.length xs.length with h|h;rw[gJ h,bL (aS _),bL h];rw[Nat.min_eq_right h]
  rw[this];simp;rfl
 have hN:(Nat.min xs.length s.length:Nat)=Nat.min s.length xs.length:=Nat.min_comm _ _
 have dV:∀w',(match o1 with|some ad=>(storeCells ad ((di (s.take xs.length)).map (Value.int .u8))).run P w=.ok () w'|none=>w'=w)->
  (execOp a.eval o).run P w=.ok (.value (.int .i64 (Nat.min xs.length s.length:Nat))) w':=by
  intro w' hw
  refine WR ho ?_
  rw[hv1,Gn,hsv,hN]
  simp only[Builtin.copy_]
  simp only[underlying,Sem.run_bind,run_program,hu,Result.andThen_ok,Sem.run_pure,List.getElem?_toArray,cn,eF,Builtin.lenOf,sizeOf,typeInfo,zv,Builtin.firstCells,vc,yS]
  cases o1 with
  |none=>simp only at hw;subst hw;simp[goInt]
  |some ad=>simp only at hw;simp[hw,goInt]
 have key:∀w',(match o1 with|some ad=>(storeCells ad ((di (s.take xs.length)).map (Value.int .u8))).run P w=.ok () w'|none=>w'=w)->Fr (λb=>dD (g.dX b)\/b∈f2) w w'->w'.heap.size=w.heap.size->
  eV g.hw w' (.sl (.int .u8)) [v0] (zH ys lo.toNat (di (s.take xs.length))) f2->lH P C o a w K r:=by
  intro w' hw je Xf gC
  obtain⟨g',mO⟩:=oO w' g.hw (.sl (.own (some tg')) (.int .u8) (zH ys lo.toNat (di (s.take xs.length)))) f2 (λc' hle Pq C4=>⟨by rw[Pq,C4];exact gC,λt ht=>by have h1:=eI.2 t ht;exact⟨(hle.hdr t h1.1).1,by rw[(hle.hdr t h1.1).2];exact h1.2⟩⟩) Bg (λb hb=>⟨by rw[Xf];exact(hg.fQ b _ (xo b hb)).1,.inl hb⟩) je (λ_ _ _ _ _=>rfl)
  exact⟨_,_,_,.inl (dV w' hw),⟨g',mO.quiet o.dst (av:=.one (.int .i64 (min xs.length s.length:Nat))) (ly (jN _ _ _))⟩,hk⟩
 have JM:v0=g.hdr tg':=(eI.2 tg' rfl).2;have gC:=eI.1;by_cases hxs:xs=[]
 subst hxs;have hz:di (s.take ([]:cP).length)=[]:=by simp[di]
 rw[hz]at key;refine key w ?_ (Fr.refl _ _) rfl (by rw[Yg];exact gC);cases o1 with|none=>rfl|some ad=>simp[storeCells]
 rcases QA with rfl|⟨n,b,o0,len,cap,k2,hlo,Ln,hle,hvx⟩;exact absurd rfl hxs;have Ln:g.hdr tg'=.slice (some ⟨b,o0,none⟩) len cap:=Ln;rw[hv1]at hvx;simp only[Value.slice.injEq,CT.size,me]at hvx;obtain⟨rfl,_,_⟩:=hvx;obtain⟨u,Oi,hO⟩:=gC;simp at Oi;subst Oi;rw[Ln]at JM;have hxl:xs.length≠0:=λh=>hxs (bO h);rcases hO with⟨⟨ad,rfl⟩,rfl,rfl⟩|⟨b2,o2,SZ,arr,T,fr,fps,rfl,hb,qv,hs,hc,hh,rfl,hl,hr⟩;simp only[Value.slice.injEq]at JM;omega;have hb:w.heap[b2]?=some (.cells arr T fr):=hb;simp only[Value.slice.injEq,aZ,Addr.mk.injEq]at JM;obtain⟨⟨rfl,rfl,_⟩,hyl,rfl⟩:=JM;simp only[CT.size,me]at hs hh hr;have hh:g.hw b2=o2+ys.length:=hh;have alD:lo.toNat=n:=by omega
 have amt:Nat.min s.length xs.length<=xs.length:=Nat.min_le_right _ _;have gu:n+(di (s.take xs.length)).length<=ys.length:=by rw[hzl];omega
 have aeq:o2+n+((di (s.take xs.length)).map (Value.int .u8)).length<=arr.size:=by rw[cp];omega
 have lN:=tP P b2 (o2+n) T fr ((di (s.take xs.length)).map (Value.int .u8)) 0 w arr hb qv (by simpa using aeq) (by simp[Value.oneCell']);simp only[dK]at lN;have Dc:=la hb;refine key _ lN ⟨rfl,rfl,rfl,by rw[kM];exact aS _,λc _ hc=>lB (λe=>hc (.inr (by simp[e])))⟩ (kM ..) ?_;rw[alD];have hlen:=OJ gu;refine⟨_,rfl,.inr ⟨b2,o2,SZ,_,T,fr,fps,by rw[hlen],uE Dc,λj hj=>qv j (by rwa[ik]at hj),by rw[ik];simpa[CT.size]using hs,by rw[hlen];exact hc,by rw[hlen];simpa[CT.size]using hh,rfl,by rw[hlen];exact hl,?_⟩⟩;intro i q f hq hf;simp only[CT.size,me];have Lo:i<ys.length:=by have:=(aE.1 hq).1;omega
 have hold:=hr i ys[i] f (al Lo) hf;refine⟨?_,hold.2⟩;have zt:(eh arr (o2+n) ((di (s.take xs.length)).map (Value.int .u8))).toList[o2+i]?=some (.int .u8 q):=by
  rw[vJ aeq];rw[Yf gu]at hq;simp only[cp];by_cases rP:n<=i/\i<n+(di (s.take xs.length)).length;rw[aF rP]at hq;rw[zip,show o2+i-(o2+n)=i-n by omega,List.getElem?_map,hq];rfl;rw[aG rP]at hq;rw[lF];have h1:=hold.1;have h2:((arr.toList.drop (o2+i)).take 1)[0]?=some (.int .u8 ys[i]):=by rw[h1];rfl
  rw[iU]at h2;simp only[Nat.zero_lt_one,bM,dK]at h2;rw[al Lo]at hq;simp at hq;rw[h2,hq]
 have hG:o2+i<(eh arr (o2+n) ((di (s.take xs.length)).map (Value.int .u8))).toList.length:=(aE.1 zt).1;rw[bK hG];have:=(aE.1 zt).2;simp[this];cases hk;cases hk;cases hk;cases hk
def Vk (P:Program)(l:aw ((Nat×Nat)×Nat)):Prop:=∀S f T,Rb l S f=some T->∀fs fd,P.underlying S=some (.struct fs)->fs[f]?=some fd->fd.type=T
def ftB (P:Program)(x:(Nat×Nat)×Nat):Bool:=
 match P.underlying x.1.1 with
 |some (.struct fs)=>match fs[x.1.2]? with|some fd=>fd.type==x.2|none=>true
 |_=>true
theorem Rc {P:Program}:∀{l:aw ((Nat×Nat)×Nat)},(l.all (ftB P))=true->Vk P l
 |[],_,S,f,T,h=>by simp[Rb]at h
 |((u,k),U)::l,hl,S,f,T,h=>by
  simp only[bV,ae]at hl;simp only[Rb]at h;cases hu:(u==S&&k==f)with
  |true=>rw[hu]at h;simp at h hu;obtain⟨rfl,rfl⟩:=hu;subst h;intro fs fd hS hf;have:=hl.1;simp only[ftB,hS,hf]at this;simpa using this
  |false=>rw[hu]at h;exact Rc hl.2 S f T h
theorem abB {T:TypeId}{sh:Shape}(hT:Zz P T sh)(cs:ir)(off:Nat)(gu:off+sh.ct.size<=cs.length): ∃v,(part T cs.toArray off).run P w=.ok v w/\Cut sh.agg v ((cs.drop off).take sh.ct.size):=by
 obtain⟨i,z,hi,sB,_⟩:=hT.elem.info;cases IA:sh.agg with
 |true=>obtain⟨fs,hu,_⟩:=hT.agg IA;refine⟨.agg (cs.toArray.extract off (off+sh.ct.size)),?_,?_⟩;simp only[part,isAgg,sizeOf,typeInfo,underlying,Sem.run_bind,run_program,hu,hi,Result.andThen_ok,Sem.run_pure,sB,bM,Sem.run_ite];simp only[Cut,bM];congr 1;apply eO;simp[List.take_drop]
 |false=>
  have h1:sh.ct.size=1:=by cases Hu:sh.ct with|pair a b=>have:=hT.pair a b Hu;rw[IA]at this;cases this|_=>rfl
  rw[h1]at gu⊢;have hG:off<cs.length:=by omega
  refine⟨cs[off],?_,?_⟩;have hnu:∃d,P.underlying T=some d/\(match d with| .struct _| .array _ _=>True|_=>False)=False:=by cases Hu:sh.ct with|pair a b=>have:=hT.pair a b Hu;rw[IA]at this;cases this|int k=>exact⟨_,hT.int k Hu IA,rfl⟩|bool=>exact⟨_,hT.bool Hu IA,rfl⟩|str=>exact⟨_,hT.str Hu IA,rfl⟩|sl e=>obtain⟨te,hu,_⟩:=hT.sl e Hu IA;exact⟨_,hu,rfl⟩
  obtain⟨d,hu,hd⟩:=hnu;simp only[part,isAgg,underlying,Sem.run_bind,run_program,hu,Result.andThen_ok,Sem.run_pure];cases d<;>simp at hd<;>simp[al hG];simp only[Cut,aU,bQ];rw[bK hG];rfl
theorem P2 {E:Env}(hE:iY P E.ty)(hF:Vk P E.fts){o:Oper}{S:TypeId}{t f:Nat}(ho:o.op=.field S (.tmp t) f)(h:mP C st a w){K:AS->ay R}(hk:Cz E o S t f st K=some r):lH P C o a w K r:=by
 obtain⟨g,h⟩:=h;unfold Cz at hk;split at hk;rename_i ct jv cs T hS hg hT;split at hk;rename_i fo n sh Lq hsh;split at hk;rename_i hc;obtain⟨rfl,hcl,gu⟩:=hc;obtain⟨fs,hu,En⟩:=(hE S _ hS).agg rfl;rw[dF]at Lq;obtain⟨fd,hfd,ahu,hn,i,hi,sB⟩:=En f fo _ Lq;have hty:=hF S f T hT fs fd hu hfd;have htl:t<st.slots.length:=by
  rcases bW t st.slots.length with hG|yc;exact hG;have:st.get t=.bot:=by simp[AS.get,dF,bu yc]
  rw[this]at hg;cases hg
 obtain⟨fp,hr,CI,hl⟩:=h.slot t;rw[hg]at hr;obtain⟨vs,eY,hr⟩:=hr;have hlen:=hr.length;obtain⟨v,QA,ahe⟩:=abB (P:=P) (w:=w) (hE T sh hsh) vs fo (by omega);have dV:(execOp a.eval o).run P w=.ok (.value v) w:=by
  have he:a.eval (.tmp t)=.agg vs.toArray:=by simp only[Cut,bM]at eY;exact eY
  simp only[execOp,ho,he,Instr.field,underlying,Sem.run_bind,run_program,hu,Result.andThen_ok,Sem.run_pure,hfd,asAgg,ahu,hty,QA]
 obtain⟨f1,f2,f3,rfl,r1,r2,r3⟩:=hr.mid fo sh.ct.size;have Of:=CI;rw[aJ]at Of;have n1:=aH.1 Of;have n2:=aH.1 n1.2.1;let Ld:AV:=.val true (dT cs fo (aQ st.ep ((cs.drop fo).take sh.ct.size)));let bI:AS:=st.put (some t) Ld;let g':Gh:={g with dX:=λb=>if b∈f2 then some (.hand 0) else g.dX b}
 have hle:(cH C g st w).Le (cH C g' bI w):=by have:= @OA C g st w (some t) Ld;exact⟨this.A,this.hdr,this.PO,this.ep,this.FA,this.Yo⟩
 have Sw:∀b y,g.dX b=some y->b∉f2->g'.dX b=some y:=by intro b y hb hm;show(if b∈f2 then _ else _)=_;rw[aG hm];exact hb
 have Ic:∀b y,y≠ .slot t->g.dX b=some y->b∉f2:=λb y hy hb hm=>hy (by have:=hl b (by simp[hm]);rw[hb]at this;simpa using this);have alQ:bA (cH C g' bI w) vs (dT cs fo (aQ st.ep ((cs.drop fo).take sh.ct.size))) (f1++f3):=by
  have hbl:(aQ st.ep ((cs.drop fo).take sh.ct.size)).length=sh.ct.size:=by simp[aQ];omega
  have e:vs=vs.take fo++(vs.drop fo).take sh.ct.size++vs.drop (fo+sh.ct.size):=by rw[aJ,<-eC,bU,bU]
  have:=bA.append (bA.append (r1.mono hle (λb _=>⟨rfl,rfl⟩)) ((r2.aQ).mono hle (by simp))) (r3.mono hle (λb _=>⟨rfl,rfl⟩));rw[<-e,bt]at this;rw[dT,hbl];exact this
 have afC:dH C g' bI a w [(v,.val sh.agg ((cs.drop fo).take sh.ct.size))]:=by
  refine h.step (λy=>y≠ .slot t) hle h.defers (by show _=(st.put (some t) Ld).slots.length;rw[fG,aB];exact h.size) (by show(st.put (some t) Ld).boxes.length=(st.put (some t) Ld).slots.length;rw[jV,fG,aB];exact h.bsize) h.frame ?_ (λb y hy hb=>⟨Sw b y hb (Ic b y hy hb),rfl,rfl⟩) ?_ ?_ ?_ (.inl ⟨by simp,Gw⟩);intro b y hy;have Ps:(if b∈f2 then some (jy.hand 0) else g.dX b)=some y:=hy;by_cases hm:b∈f2;exact h.fQ b _ (hl b (by simp[hm]));rw[aG hm]at Ps;exact h.fQ b y Ps;intro j bv hj;have Xa:(st.slots.set t Ld)[j]?=some bv:=by rw[<-fG];exact hj
  by_cases hjt:j=t;subst hjt;rw[bm]at Xa;simp only[bM,htl]at Xa;simp at Xa;subst Xa;refine .inr ⟨f1++f3,⟨vs,eY,alQ⟩,?_,?_⟩;refine aH.2 ⟨n1.1,n2.2.1,?_⟩;rintro b hb c hc rfl;exact n1.2.2 b hb b (ba _ hc) rfl;intro b hb;refine Sw b _ (hl b (by rcases ax.1 hb with k|k<;>simp[k])) (λhm=>?_);rcases ax.1 hb with k|k;exact n1.2.2 b k b (bn _ hm) rfl;exact n2.2.2 b hm b k rfl;rw[aP (cL hjt)]at Xa;exact .inl ⟨by simpa using hjt,Xa,rfl⟩;intro s oS hb;have gK:st.boxes[s]?=some (some oS):=by rw[<-jV (d:=some t) (v:=Ld)];exact hb
  exact .inl ⟨by simp,gK,rfl⟩;intro k u bv BK;cases k with
  |zero=>simp only[cn,aZ,Prod.mk.injEq]at BK;obtain⟨rfl,rfl⟩:=BK;refine .inr ⟨f2,⟨_,ahe,r2.mono hle (λb _=>⟨rfl,rfl⟩)⟩,n2.1,λb hb=>?_⟩;show(if b∈f2 then _ else _)=_;rw[aF hb]
  |succ k=>simp at BK
 exact⟨v,w,_,.inl dV,dH.Av afC o.dst,hk⟩;cases hk;cases hk;cases hk
end Go.Dn
