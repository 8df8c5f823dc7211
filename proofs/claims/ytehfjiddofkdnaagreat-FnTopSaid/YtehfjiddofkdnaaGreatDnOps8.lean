import Derived.Test.YtehfjiddofkdnaaGreatDnOps7
/- Part 8: copy, and fields of structs in slots. -/
open Option renaming some->I
namespace Go.Dn
open Go.RowKit
variable {P:Program} {C:Ctx} {st:AS} {a:Act} {w:World} {R:Type} {r:R}
variable {X:Nat} {Y:dw}
theorem acN {zs}(h:X+zs.length<=Y.length):(KB Y X zs).length=Y.length:=by simp[KB];omega
theorem anh {zs}(h:X+zs.length<=Y.length)j:(KB Y X zs)[j]?=if X<=j/\j<X+zs.length then zs[j-X]? else Y[j]?:=by
 unfold KB;have b:(Y.take X).length=X:=by simp;omega
 by_cases a:j<X;rw[nQ,bE J,fA,aI a];rw[bN J,b];by_cases c:j<X+zs.length;rw[zip,bE J];rw[nQ,bN J,cA];congr 1;omega
theorem ani:KB Y X []=Y:=by simp[KB]
theorem alP {o s x t b}(e:o.op=.call {callee:=.builtin .copy,args:=#[s,x],argTypes:=#[t,b]}){v c}(h:(Builtin.copy_ #[t,b] o.type #[a.eval s,a.eval x]).run P w=.ok v c):(execOp a.eval o).run P w=.ok (.value v) c:=by have d:(#[s,x]:Array Operand).map a.eval=#[a.eval s,a.eval x]:=aD;simp only[execOp,e,resolve,d,Sem.run_bind,Sem.run_pure,Result.andThen_ok,invoke,builtin];show((Builtin.copy_ #[t,b] o.type #[a.eval s,a.eval x]).run P w).andThen _=_;rw[h];rfl
theorem alF {E}(hE:mL P E.ty){o args ts}(ho:o.op=.call {callee:=.builtin .copy,args,argTypes:=ts})(h:ub C st a w){K}(p:ZJ E o ts.toList args.toList st K=I r):rD P C o a w K r:=by
 obtain⟨g,hg⟩:=h;unfold ZJ at p;split at p;rename_i t t' ep rt tg X e d s hts aum;obtain⟨x,y,rfl,hx,hy⟩:=Yw aum;have et:ts=#[t,t']:=by apply gV;simpa using hts
 subst et;split at p;rename_i D e' Y atx;split at p;rename_i hee;subst hee;split at p;rename_i hc;obtain⟨rfl,hT,hT',hep,rfl⟩:=hc;simp only at p;have hxv:=hg.rd x;rw[hx]at hxv;have hxc:=gk hxv;have hyv:=hg.rd y;rw[hy]at hyv;have hsv:=(gk hyv).1;obtain⟨te,hu,⟨⟨inf,z,aA6,hsz,_⟩,_⟩⟩:=Nu hE hT;have aBC:inf.size=1:=hsz;obtain⟨v0,f2,Q,hn2,hl2,ahT⟩:=hg.acW rt aD atx;obtain⟨_,_,⟨o1,n1,k1,hv1,hn1⟩,N⟩:=hxc;obtain⟨al6,N⟩:=N hep;have hm:(s.take d.length).length=Nat.min s.length d.length:=by simp[Nat.min_comm]
 have hzl:(dU (s.take d.length)).length=Nat.min s.length d.length:=by rw[dU,bt,hm]
 have aCe:((ByteArray.mk s.toArray).extract 0 (Nat.min s.length d.length)).data.map (λb=>Value.int .u8 b.toNat)=((dU (s.take d.length)).map (Value.int .u8)).toArray:=by
  rw[extract_mk];simp only[ik,dU,List.map_map];have:s.take (Nat.min s.length d.length)=s.take d.length:=by show s.take (min s.length d.length)=_;rcases Nat.le_total s.length d.length with h|h;rw[jF h,cd (bq _),cd h];rw[lB h]
  rw[this];simp;rfl
 have hN:(Nat.min d.length s.length:Nat)=Nat.min s.length d.length:=Nat.min_comm _ _
 have MX:∀m,(match o1 with|some V=>(storeCells V ((dU (s.take d.length)).map (Value.int .u8))).run P w=.ok () m|none=>m=w)->
  (execOp a.eval o).run P w=.ok (.value (.int .i64 (Nat.min d.length s.length:Nat))) m:=by
  intro m Z
  refine alP ho ?_
  rw[hv1,hn1,hsv,hN]
  simp only[Builtin.copy_]
  simp only[underlying,Sem.run_bind,run_program,hu,Result.andThen_ok,Sem.run_pure,List.getElem?_toArray,dy,gI,Builtin.lenOf,sizeOf,typeInfo,aA6,Builtin.firstCells,Fi,aCe]
  cases o1 with
  |none=>simp only at Z;subst Z;simp[goInt]
  |some V=>simp only at Z;simp[Z,goInt]
 have U:∀m,(match o1 with|some V=>(storeCells V ((dU (s.take d.length)).map (Value.int .u8))).run P w=.ok () m|none=>m=w)->Fr (λb=>fH (g.gb b)\/b∈f2) w m->m.heap.size=w.heap.size->
  gX g.hw m (.sl (.int .u8)) [v0] (KB Y X.toNat (dU (s.take d.length))) f2->rD P C o a w K r:=by
  intro m Z hfr al8 A
  obtain⟨g',hg'⟩:=ahT m g.hw (.sl (.own (I D)) (.int .u8) (KB Y X.toNat (dU (s.take d.length)))) f2 (λc' M hcw atv=>⟨by rw[hcw,atv];exact A,λt ht=>by have h1:=Q.2 t ht;exact⟨(M.hdr t h1.1).1,by rw[(M.hdr t h1.1).2];exact h1.2⟩⟩) hn2 (λb H=>⟨by rw[al8];exact(hg.ju b _ (hl2 b H)).1,.inl H⟩) hfr (λ_ _ _ _ _=>rfl)
  exact⟨_,_,_,.inl (MX m Z),⟨g',hg'.quiet o.dst (av:=.one (.int .i64 (min d.length s.length:Nat))) (qZ (od _ _ _))⟩,p⟩
 have B:v0=g.hdr D:=(Q.2 D rfl).2;have A:=Q.1;by_cases S:d=[]
 subst S;have hz:dU (s.take ([]:dw).length)=[]:=by simp[dU]
 rw[hz]at U;refine U w ?_ (Fr.refl _ _) rfl (by rw[ani];exact A);cases o1 with|none=>rfl|some V=>simp[storeCells]
 rcases N with rfl|⟨n,b,o0,len,cap,k2,hlo,L,M,R⟩;exact absurd rfl S;have L:g.hdr D=.slice (I ⟨b,o0,none⟩) len cap:=L;rw[hv1]at R;simp only[Value.slice.injEq,CT.size,oO]at R;obtain⟨rfl,_,_⟩:=R;obtain⟨u,hu',hO⟩:=A;simp at hu';subst hu';rw[L]at B;have hxl:d.length≠0:=λh=>S (cB h);rcases hO with⟨⟨V,rfl⟩,rfl,rfl⟩|⟨b2,v,ahm,l,T,fr,fps,rfl,H,MY,hs,hc,hh,rfl,hl,hr⟩;simp only[Value.slice.injEq]at B;omega;have H:w.heap[b2]?=I (.cells l T fr):=H;simp only[Value.slice.injEq,bI,Addr.mk.injEq]at B;obtain⟨⟨rfl,rfl,_⟩,hyl,rfl⟩:=B;simp only[CT.size,oO]at hs hh hr;have hh:g.hw b2=v+Y.length:=hh;have aA7:X.toNat=n:=J;have aBA:Nat.min s.length d.length<=d.length:=Nat.min_le_right _ _;have atw:n+(dU (s.take d.length)).length<=Y.length:=by rw[hzl];omega
 have aCD:v+n+((dU (s.take d.length)).map (Value.int .u8)).length<=l.size:=by rw[bt];omega
 have hst:=DX P b2 (v+n) T fr ((dU (s.take d.length)).map (Value.int .u8)) 0 w l H MY (by simpa using aCD) (by simp[Value.oneCell']);simp only[eY]at hst;have hbs:=qB H;refine U _ hst ⟨rfl,rfl,rfl,by rw[qa];exact bq _,λc _ hc=>rm (λe=>hc (.inr (by simp[e])))⟩ (qa ..) ?_;rw[aA7];have k:=acN atw;refine⟨_,rfl,.inr ⟨b2,v,ahm,_,T,fr,fps,by rw[k],EU hbs,λj hj=>MY j (by rwa[lr]at hj),by rw[lr];simpa[CT.size]using hs,by rw[k];exact hc,by rw[k];simpa[CT.size]using hh,rfl,by rw[k];exact hl,?_⟩⟩;intro i q f F hf;simp only[CT.size,oO];have hil:i<Y.length:=by have:=(aA.1 F).1;omega
 have hold:=hr i Y[i] f (ah hil) hf;refine⟨?_,hold.2⟩;have aCd:(gv l (v+n) ((dU (s.take d.length)).map (Value.int .u8))).toList[v+i]?=I (.int .u8 q):=by
  rw[F2 aCD];rw[anh atw]at F;simp only[bt];by_cases hin:n<=i/\i<n+(dU (s.take d.length)).length;rw[aI hin]at F;rw[zip,(J:v+i-(v+n)=i-n),gz,F];rfl;rw[aK hin]at F;rw[nQ];have h1:=hold.1;have h2:((l.toList.drop (v+i)).take 1)[0]?=I (.int .u8 Y[i]):=by rw[h1];rfl
  rw[mE]at h2;simp only[Nat.zero_lt_one,dm,eY]at h2;rw[ah hil]at F;simp at F;rw[h2,F]
 have YI:v+i<(gv l (v+n) ((dU (s.take d.length)).map (Value.int .u8))).toList.length:=(aA.1 aCd).1;rw[bZ YI];have:=(aA.1 aCd).2;simp[this];cases p;cases p;cases p;cases p
def ajW (P:Program)l:=∀S f T,afd l S f=I T->∀b a,P.underlying S=I (.struct b)->b[f]?=I a->a.type=T
def ftB (P:Program)(x:(Nat×Nat)×Nat):Bool:=
 match P.underlying x.1.1 with
 |some (.struct b)=>match b[x.1.2]? with|some a=>a.type==x.2|none=>true
 |_=>true
theorem afe {P:Program}:∀{l:Z ((Nat×Nat)×Nat)},(l.all (ftB P))=true->ajW P l
 |[],_,S,f,T,h=>by simp[afd]at h
 |((u,k),U)::l,b,S,f,T,h=>by
  simp only[cC,af]at b;simp only[afd]at h;cases a:(u==S&&k==f)with
  |true=>rw[a]at h;simp at h a;obtain⟨rfl,rfl⟩:=a;subst h;intro g e c d;have:=b.1;simp only[ftB,c,d]at this;simpa using this
  |false=>rw[a]at h;exact afe b.2 S f T h
theorem aqs {T h}(j:aoE P T h)(l:oz)g(n:g+h.ct.size<=l.length): ∃v,(part T l.toArray g).run P w=.ok v w/\Cut h.agg v ((l.drop g).take h.ct.size):=by
 obtain⟨i,z,t,p,_⟩:=j.elem.info;cases c:h.agg with
 |true=>obtain⟨u,m,_⟩:=j.agg c;refine⟨.agg (l.toArray.extract g (g+h.ct.size)),?_,?_⟩;simp only[part,isAgg,sizeOf,typeInfo,underlying,Sem.run_bind,run_program,m,t,Result.andThen_ok,Sem.run_pure,p,dm,Sem.run_ite];simp only[Cut,dm];congr 1;apply gV;simp[List.take_drop]
 |false=>
  have r:h.ct.size=1:=by cases f:h.ct with|pair a b=>have:=j.pair a b f;rw[c]at this;cases this|_=>rfl
  rw[r]at n⊢;have q:g<l.length:=J;refine⟨l[g],?_,?_⟩;have o:∃d,P.underlying T=I d/\(match d with| .struct _| .array _ _=>True|_=>False)=False:=by cases f:h.ct with|pair a b=>have:=j.pair a b f;rw[c]at this;cases this|int k=>exact⟨_,j.int k f c,rfl⟩|bool=>exact⟨_,j.bool f c,rfl⟩|str=>exact⟨_,j.str f c,rfl⟩|sl e=>obtain⟨x,m,_⟩:=j.sl e f c;exact⟨_,m,rfl⟩
  obtain⟨d,m,s⟩:=o;simp only[part,isAgg,underlying,Sem.run_bind,run_program,m,Result.andThen_ok,Sem.run_pure];cases d<;>simp at s<;>simp[ah q];simp only[Cut,bD,cY];rw[bZ q];rfl
theorem ad6 {E}(hE:mL P E.ty)(hF:ajW P E.fts){o S t f}(ho:o.op=.field S (.tmp t) f)(h:ub C st a w){K}(B:NZ E o S t f st K=I r):rD P C o a w K r:=by
 obtain⟨g,h⟩:=h;unfold NZ at B;split at B;rename_i ct nt M T hS hg hT;split at B;rename_i fo n x U hsh;split at B;rename_i hc;obtain⟨rfl,hcl,atw⟩:=hc;obtain⟨fs,hu,hfs⟩:=(hE S _ hS).agg rfl;rw[fJ]at U;obtain⟨fd,N,aDr,hn,i,hi,hsz⟩:=hfs f fo _ U;have hty:=hF S f T hT fs fd hu N;have htl:t<st.slots.length:=by
  rcases ca t st.slots.length with YI|hge;exact YI;have:st.get t=.bot:=by simp[AS.get,fJ,cn hge]
  rw[this]at hg;cases hg
 obtain⟨fp,V,hnd,hl⟩:=h.slot t;rw[hg]at V;obtain⟨D,WO,V⟩:=V;have hlen:=V.length;obtain⟨v,aDz,aCj⟩:=aqs (P:=P) (w:=w) (hE T x hsh) D fo J;have MX:(execOp a.eval o).run P w=.ok (.value v) w:=by
  have he:a.eval (.tmp t)=.agg D.toArray:=by simp only[Cut,dm]at WO;exact WO
  simp only[execOp,ho,he,Instr.field,underlying,Sem.run_bind,run_program,hu,Result.andThen_ok,Sem.run_pure,N,asAgg,aDr,hty,aDz]
 obtain⟨f1,f2,f3,rfl,r1,r2,r3⟩:=V.mid fo x.ct.size;have R:=hnd;rw[aH]at R;have n1:=aX.1 R;have n2:=aX.1 n1.2.1;let l:AV:=.val true (fV M fo (bz st.ep ((M.drop fo).take x.ct.size)));let L:AS:=st.put (I t) l;let Z:Gh:={g with gb:=λb=>if b∈f2 then I (.hand 0) else g.gb b}
 have q:(dQ C g st w).Le (dQ C Z L w):=by have:= @acB C g st w (I t) l;exact⟨this.A,this.hdr,this.adS,this.ep,this.Rv,this.anv⟩
 have Q:∀b y,g.gb b=I y->b∉f2->Z.gb b=I y:=by intro b y m z;show(if b∈f2 then _ else _)=_;rw[aK z];exact m
 have auw:∀b y,y≠ .slot t->g.gb b=I y->b∉f2:=λb y X m z=>X (by have:=hl b (by simp[z]);rw[m]at this;simpa using this);have aD6:cv (dQ C Z L w) D (fV M fo (bz st.ep ((M.drop fo).take x.ct.size))) (f1++f3):=by
  have hbl:(bz st.ep ((M.drop fo).take x.ct.size)).length=x.ct.size:=by simp[bz];omega
  have e:D=D.take fo++(D.drop fo).take x.ct.size++D.drop (fo+x.ct.size):=by rw[aH,<-fM,cH,cH]
  have:=cv.append (cv.append (r1.mono q (λb _=>⟨rfl,rfl⟩)) ((r2.bz).mono q aD)) (r3.mono q (λb _=>⟨rfl,rfl⟩));rw[<-e,bm]at this;rw[fV,hbl];exact this
 have aD1:fL C Z L a w [(v,.val x.agg ((M.drop fo).take x.ct.size))]:=by
  refine h.step (λy=>y≠ .slot t) q h.defers (by show _=(st.put (I t) l).slots.length;rw[iX,aC];exact h.size) (by show(st.put (I t) l).boxes.length=(st.put (I t) l).slots.length;rw[oA,iX,aC];exact h.bsize) h.frame ?_ (λb y X m=>⟨Q b y m (auw b y X m),rfl,rfl⟩) ?_ ?_ ?_ (.inl ⟨aD,S0⟩);intro b y X;have Y:(if b∈f2 then I (oN.hand 0) else g.gb b)=I y:=X;by_cases z:b∈f2;exact h.ju b _ (hl b (by simp[z]));rw[aK z]at Y;exact h.ju b y Y;intro j bv hj;have p:(st.slots.set t l)[j]?=I bv:=by rw[<-iX];exact hj
  by_cases F:j=t;subst F;rw[bX]at p;simp only[dm,htl]at p;simp at p;subst p;refine .inr ⟨f1++f3,⟨D,WO,aD6⟩,?_,?_⟩;refine aX.2 ⟨n1.1,n2.2.1,?_⟩;rintro b m c hc rfl;exact n1.2.2 b m b (bC _ hc) rfl;intro b m;refine Q b _ (hl b (by rcases aB.1 m with k|k<;>simp[k])) (λz=>?_);rcases aB.1 m with k|k;exact n1.2.2 b k b (bh _ z) rfl;exact n2.2.2 b z b k rfl;rw[aJ (cI F)]at p;exact .inl ⟨by simpa using F,p,rfl⟩;intro s cs' m;have hb':st.boxes[s]?=I (I cs'):=by rw[<-oA (d:=some t) (v:=l)];exact m
  exact .inl ⟨aD,hb',rfl⟩;intro k u bv H;cases k with
  |zero=>simp only[dy,bI,Prod.mk.injEq]at H;obtain⟨rfl,rfl⟩:=H;refine .inr ⟨f2,⟨_,aCj,r2.mono q (λb _=>⟨rfl,rfl⟩)⟩,n2.1,λb m=>?_⟩;show(if b∈f2 then _ else _)=_;rw[aI m]
  |succ k=>simp at H
 exact⟨v,w,_,.inl MX,fL.Lx aD1 o.dst,B⟩;cases B;cases B;cases B
end Go.Dn
