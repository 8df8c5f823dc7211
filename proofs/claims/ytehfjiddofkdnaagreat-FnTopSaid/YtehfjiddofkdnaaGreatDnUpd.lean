import Derived.Test.YtehfjiddofkdnaaGreatDnMask
/- What an operation looks at and what it turns: for regions whose order is drawn. -/
open Bool renaming false->G,true->O
open Option renaming none->W,some->I
namespace Go.Dn
structure Sp where
 slots:List (Nat×AV):=[]
 box:Option (Nat×List AC):=W
 iss:Option Nat:=W
def nu (l:Z AV):Z (Nat×AV)->Z AV
 |[]=>l
 |x::r=>nu (kA l x.1 x.2) r
def Sp.apply (u:Sp)(st:AS):AS:=
 ⟨nu st.slots u.slots,(match u.box with|some b=>kA st.boxes b.1 (I b.2)|none=>st.boxes),st.ep,(match u.iss with|some d=>kA st.iss d O|none=>st.iss),st.io⟩
structure ki (Y:An) (X:List Nat) (o:Oper) (st M:AS):Prop where
 len:M.slots.length=st.slots.length
 get:∀t∈fB o,M.get t=st.get t
 ep:M.ep=st.ep
 dst:∀d,o.dst=I d->nth M.iss d=nth st.iss d/\nth M.boxes d=nth st.boxes d
 box:∀s,X.contains s=G->nth M.boxes s=nth st.boxes s
 er:∀t∈erS Y o,M.get t=st.get t
structure Sp.Pp (Y:An) (u:Sp) (o:Oper):Prop where
 slots:∀x∈u.slots,x.1∈writes Y o
 box:∀b,u.box=I b->b.1∈NM Y o
 iss:∀d,u.iss=I d->o.dst=I d
variable {E:Env} {Q:IY} {Y:An} {X:gw} {o:Oper} {st M R:AS}
variable {parts:Array (Nat×Operand)} {args:Array Operand} {P:Array TypeId} {t:Nat} {f p x:Operand} {T:TypeId} {tl:Z (Nat×AV)} {S:Z AC}
theorem aqu (a:M.ep=st.ep)(h:∀t∈tm x,M.get t=st.get t):M.rd x=st.rd x:=by cases x with|tmp t=>simp only[AS.rd,a,h t (by simp[tm])]|const v=>rfl|func f=>rfl|global g=>rfl
def fU E Q Y X o st R:=
 ∃u:Sp,u.Pp Y o/\R=u.apply st/\∀M,ki Y X o st M->dM E Q Y o M I=I (u.apply M)
def LZ (o:Oper)(v:AV):Sp:={slots:=o.dst.toList.map λd=>(d,v)}
theorem zW v:(LZ o v).apply st=st.put o.dst v:=by unfold LZ Sp.apply AS.put;cases o.dst<;>rfl
theorem J4 v:(LZ o v).Pp Y o:=by refine⟨λx c=>?_,λb e=>by simp[LZ]at e,λd a=>by simp[LZ]at a⟩;simp only[LZ,cX]at c;obtain⟨d,a,rfl⟩:=c;simp[writes,a]
def Qj (o:Oper)(v:AV):Sp:={slots:=o.dst.toList.map λd=>(d,v),iss:=o.dst}
theorem Si v:(Qj o v).apply st=(st.iC o.dst).put o.dst v:=by unfold Qj Sp.apply AS.put AS.iC;cases o.dst<;>rfl
theorem Zz v:(Qj o v).Pp Y o:=by refine⟨λx c=>?_,λb e=>by simp[Qj]at e,λd a=>by simpa[Qj]using a⟩;simp only[Qj,cX]at c;obtain⟨d,a,rfl⟩:=c;simp[writes,a]
theorem fU.put {v}(h:R=st.put o.dst v)(a:∀M,ki Y X o st M->dM E Q Y o M I=I (M.put o.dst v)):fU E Q Y X o st R:=⟨LZ o v,J4 v,by rw[zW];exact h,λM b=>by rw[zW];exact a M b⟩
theorem ki.rd (a:ki Y X o st M)(c:∀t∈tm x,t∈fB o):M.rd x=st.rd x:=aqu a.ep λt b=>a.get t (c t b)
theorem aiL {c y}(f:o.op=.pick c x y)(h:Nh o c x y st I=I R):fU E Q Y X o st R:=by
 have m:∀M,ki Y X o st M->M.rd c=st.rd c/\M.rd x=st.rd x/\M.rd y=st.rd y:=λM d=>
  ⟨d.rd (λt g=>by simp[fB,f,g]),d.rd (λt g=>by simp[fB,f,g]),d.rd (λt g=>by simp[fB,f,g])⟩
 unfold Nh at h;split at h;rename_i t l;split at h;rename_i a b p q;cases h;refine fU.put rfl λM d=>?_;obtain⟨i,j,k⟩:=m M d;simp only[dM,f,Nh,i,j,k,l,p,q];rename_i r s n;have e:∀M,ki Y X o st M->dM E Q Y o M I=cond t (I (M.put o.dst (st.rd x))) (I (M.put o.dst (st.rd y))):=by intro M d;obtain⟨i,j,k⟩:=m M d;simp only[dM,f,Nh,i,j,k,l]
 cases t with|true=>cases h;exact fU.put rfl λM d=>e M d|false=>cases h;exact fU.put rfl λM d=>e M d
 cases h
theorem Xl {d s v}:(⟨[(d,v)],I (s,S),W⟩:Sp).apply st=(st.gD s (I S)).put (I d) v:=rfl
theorem aby {o}(h:NG Y o=O):∃T q d,o.op=.load T (.tmp q)/\o.dst=I d/\o.guard=W/\Y.mv.contains d=O/\Y.mb d=none:=by unfold NG at h;split at h;rename_i T q d c a b;simp only[af,Option.isNone_iff_eq_none]at h;exact⟨T,q,d,c,a,b,h.1.1,h.1.2⟩;cases h
def Sf (st:AS)b j t(e:CT)i S a:=st.gD b (I (kA S j (.sl (.im (I t) i (I st.ep)) e a)))
theorem Yq {q d:Nat}(M:NG Y o=O)(L:o.op=.load T (.tmp q))(s:o.dst=I d)(m:Y.mv.contains d=O)(l:Y.mb d=W):(fb E Y X o st=O/\vD E Y o T (.tmp q) st I=I R)↔ ∃(g:Bool)(e:CT)(F:Z (Nat×Nat))(b j t c:Nat)(x:e.D)(i:Int)(S:Z AC)(p:Z e.D)(y:e.D),lV E.ty T=I ⟨g,e,F⟩/\st.rd (.tmp q)=.val G [.I7 (.loc c (I (.box b j,t))) e x i 0]/\(nth st.boxes b).getD W=I S/\nth S j=I (.sl (.own (I t)) e p)/\idx p i=I y/\ X.contains b=G/\Y.eb q=I b/\fmB Y o=G/\R=(Sf st b j t e i S p).put (I d) (.val g (cellsOf e (.own W) y)):=by
 have C:NJ Y o=true:=by unfold NJ;rw[s];simp only[m,l];rfl
 have z:J1 Y o=false:=by unfold J1;split;rename_i a _;rw[s]at a;cases a;rw[l];simp;rfl
 have A:Jl Y o=false:=by unfold Jl;split;rename_i a _;rw[s]at a;cases a;rw[m];rfl;rfl
 constructor;rintro⟨hf,h⟩;unfold vD at h;split at h;rename_i n;simp only[fb,L,n,s,m,l]at hf;simp at hf;rename_i sh fl e x i off H n;rw[aI C]at h;simp only[fb,L,n,M,z,A,Bool.or_false,bS,ak,cq,gB,af,aW]at hf;obtain⟨⟨V,k⟩,u⟩:=hf;unfold Ge at h;split at h;rename_i c r t;cases r with
 |slot _ _=>cases u
 |io _=>cases u
 |box b j=>
  simp only[af,bw,aW]at u;split at h;rename_i t' e' p B;split at h;rename_i Q;subst Q;split at h;rename_i P;obtain⟨rfl,rfl,v⟩:=P;obtain⟨g,ct,F⟩:=sh;simp only at v;subst v;cases w:idx p i with|none=>simp only[w,U]at h;cases h|some y=>simp only[w,U]at h;cases h;simp only[AS.gN]at B;obtain⟨S,f,K⟩:=br.1 B;refine⟨g,_,F,b,j,_,c,x,i,S,p,y,H,n,f,K,w,u.2,u.1,k,?_⟩;simp only[AS.hZ,f,s];rfl
  cases h;cases h;cases h
 cases h;cases h;rintro⟨g,e,F,b,j,t,c,x,i,S,p,y,H,n,f,K,w,N,J,k,rfl⟩;constructor;simp only[fb,L,n,M,z,A,k,N,J];simp;simp only[vD,H,n,C,dm,Ge,AS.gN,f,gi,K,dite_true,and_self,w,U,AS.hZ,s];rfl
theorem afs (f:NG Y o=O)(c:o.op=.load T p)(z:fb E Y X o st=O)(h:vD E Y o T p st I=I R):fU E Q Y X o st R:=by obtain⟨P,q,d,m,n,V,a,l⟩:=aby f;rw[c]at m;cases m;obtain⟨g,e,N,b,j,t,r,x,i,S,C,y,F,L,v,K,J,A,k,w,rfl⟩:=(Yq f c n a l).1 ⟨z,h⟩;refine⟨⟨[(d,.val g (cellsOf e (.own W) y))],I (b,kA S j (.sl (.im (I t) i (I st.ep)) e C)),W⟩,⟨λx B=>?_,λU u=>?_,λ_ H=>by cases H⟩,rfl,λM s=>?_⟩;simp only[aY]at B;subst B;simp[writes,n];cases u;simp only[NM,c,n,a,ae,f,k];simp;have D:=((Yq (E:=E) (X:=X) (st:=M) f c n a l).2 ⟨g,e,N,b,j,t,r,x,i,S,C,y,F,by rw[s.rd (λt f=>by simpa[fB,c]using f)];exact L,by rw[s.box b A];exact v,K,J,A,k,w,rfl⟩).2;simp only[dM,c];rw[D];simp only[Sf,s.ep];rfl
theorem aiJ (f:o.op=.load T p)(k:td Y o=O)(c:fb E Y X o st=O)(h:vD E Y o T p st I=I R):fU E Q Y X o st R:=by
 cases H:NG Y o with|true=>exact afs H f c h|false=> ?_
 have D:∀M,ki Y X o st M->M.rd p=st.rd p:=λM a=>a.rd (λt ht=>by simpa[fB,f]using ht);have v:NJ Y o=false:=by simp only[td,f,H,Bool.or_false]at k;unfold NJ;cases K:o.dst with|none=>rfl|some d=>rw[K]at k;simp only[dW,aW]at k;rcases k with k|k;simp only[k,iR];cases l:Y.mb d with|none=>rw[l]at k;cases k|some _=>simp[l]
 unfold vD at h;split at h;rename_i F s m z u;simp only[fb,f,u,af,aW]at c;split at h;rename_i S V;split at h;rename_i g;split at h;rename_i d q;have A:∀M,ki Y X o st M->nth M.boxes s=nth st.boxes s:=λM a=>a.box s c.1.1;cases w:Y.mv.contains d with
 |false=>simp only[w,bD,cY]at h;cases h;refine fU.put (by rw[q]) λM a=>?_;simp only[dM,f,vD,z,D M a,u,A M a,V,aI g,q,w,bD,cY,a.ep]
 |true=>
  simp only[w,dm]at h;have l:Y.mb d=I s:=by have:=c.1.2;rw[q]at this;simp only[w,ak,cq,bw]at this;exact this
  cases h;refine⟨⟨[(d,.val F.agg ((S.drop m).take F.ct.size))],I (s,fV S m (bz st.ep ((S.drop m).take F.ct.size))),W⟩,⟨λx hx=>?_,λb J=>?_,λ_ hh=>by cases hh⟩,?_,λM a=>?_⟩;simp only[aY]at hx;subst hx;simp[writes,q];cases J;simp only[NM,f,q,w,ae,l];simp;rw[Xl,q];simp only[dM,f,vD,z,D M a,u,A M a,V,aI g,q,w,dm,a.ep,Xl]
 cases h;cases h;cases h;rename_i F fl e x i m z u;rw[aK (by simp[v])]at h;split at h;rename_i C;split at h;rename_i g;cases h;refine fU.put rfl λM a=>?_;simp only[dM,f,vD,z,D M a,u,a.ep,v,bD,cY,aI C,aI g];cases h;rename_i C;have P:∀r t n,fl=.loc n (I (r,t))->∀M,ki Y X o st M->M.gN r=st.gN r:=by rintro r t n rfl M a;simp only[fb,f,u,H,bS,lI,gB,af,dW]at c;rcases c.1.1 with B|B;exact absurd B C;cases r with|slot b j=>simp only[AS.gN];rw[a.er b (by simpa using B)]|box b j=>simp only[AS.gN];rw[a.box b (by simpa using B)]|io j=>cases B
 unfold LQ at h;split at h;rename_i n r t;split at h;rename_i t' e' ys N;split at h;rename_i Z;split at h;rename_i hc;cases L:idx (Z▸ys:List _) i with|none=>rw[L]at h;cases h|some y=>rw[L]at h;simp only[U]at h;cases h;refine fU.put rfl λM a=>?_;simp only[dM,f,vD,z,D M a,u,a.ep,v,bD,cY,aK C,LQ,P _ _ _ rfl M a,N,dif_pos Z,aI hc,L,U]
 cases h;cases h;cases h;cases h;cases h
theorem Xq (b:o.op=.nilCheck x)(h:dM E Q Y o st I=I R):fU E Q Y X o st R:=by have f:∀M,ki Y X o st M->M.rd x=st.rd x:=λM a=>a.rd (λt g=>by simpa[fB,b]using g);simp only[dM,b]at h;split at h;rename_i s d c;cases h;refine fU.put rfl λM a=>?_;simp only[dM,b,f M a,c];rename_i j e y i d c;cases h;refine fU.put rfl λM a=>?_;simp only[dM,b,f M a,c];cases h
theorem Yx {op x y}(h:(OI op x y λc=>I (st.put o.dst (.one c)))=I R):∃v,R=st.put o.dst v/\∀M:AS,(OI op x y λc=>I (M.put o.dst (.one c)))=I (M.put o.dst v):=by have a:∀s:AS,(OI op x y λc=>I (s.put o.dst (.one c)))=(OI op x y I).bind λc=>I (s.put o.dst (.one c)):=λs=>(NV op x y I _).symm;rw[a st]at h;cases b:OI op x y I with|none=>rw[b]at h;cases h|some c=>rw[b]at h;cases h;exact⟨_,rfl,λM=>by rw[a M,b];rfl⟩
theorem abD {op b}(h:(Mc op b λc=>I (st.put o.dst (.one c)))=I R):∃v,R=st.put o.dst v/\∀M:AS,(Mc op b λc=>I (M.put o.dst (.one c)))=I (M.put o.dst v):=by unfold Mc at h;split at h;cases h;exact⟨_,rfl,λM=>rfl⟩;cases h;exact⟨_,rfl,λM=>rfl⟩;cases h
theorem amY {op p y}(g:o.op=.binOp op T x y p)(h:I3 E o op T x y st I=I R):fU E Q Y X o st R:=by
 have d:∀M,ki Y X o st M->M.rd x=st.rd x/\M.rd y=st.rd y:=λM c=>
  ⟨c.rd (λt n=>by simp[fB,g,n]),c.rd (λt n=>by simp[fB,g,n])⟩
 unfold I3 at h;split at h;rename_i a b i j;split at h;rename_i k;obtain⟨v,rfl,f⟩:=Yx h;refine fU.put rfl λM c=>?_;simp only[dM,g,I3,(d M c).1,(d M c).2,i,j,aI k];exact f M;cases h;rename_i z C i j;split at h;rename_i B w;split at h;rename_i m;obtain⟨v,rfl,f⟩:=Yx h;refine fU.put rfl λM c=>?_;simp only[dM,g,I3,(d M c).1,(d M c).2,i,j,w,aI m];exact f M;cases h;cases h;rename_i A e z i j;split at h;rename_i k;split at h;cases h;rename_i l;obtain⟨v,rfl,f⟩:=abD h;refine fU.put rfl λM c=>?_;simp only[dM,g,I3,(d M c).1,(d M c).2,i,j,c.ep,aI k,aK l];exact f M;cases h;rename_i i j;split at h;rename_i k;obtain⟨v,rfl,f⟩:=abD h;refine fU.put rfl λM c=>?_;simp only[dM,g,I3,(d M c).1,(d M c).2,i,j,aI k];exact f M;cases h;rename_i a b q r s u;obtain⟨v,rfl,f⟩:=Yx h;refine fU.put rfl λM c=>?_;simp only[dM,g,I3,(d M c).1,(d M c).2];exact f M
theorem aqa {op}(e:o.op=.unOp op T x)(h:(unC op (st.rd x) λc=>I (st.put o.dst (.one c)))=I R):fU E Q Y X o st R:=by have f:∀M,ki Y X o st M->M.rd x=st.rd x:=λM b=>b.rd (λt g=>by simpa[fB,e]using g);have a:∀s:AS,(unC op (st.rd x) λc=>I (s.put o.dst (.one c)))=(unC op (st.rd x) I).bind λc=>I (s.put o.dst (.one c)):=λs=>(agM op (st.rd x) I _).symm;rw[a st]at h;cases d:unC op (st.rd x) I with|none=>rw[d]at h;cases h|some c=>rw[d]at h;cases h;refine fU.put rfl λM b=>?_;simp only[dM,e,f M b];rw[a M,d];rfl
theorem afo {S f}(d:o.op=.fieldAddr S p f)(h:HY E o S p f st I=I R):fU E Q Y X o st R:=by have g:∀M,ki Y X o st M->M.rd p=st.rd p:=λM a=>a.rd (λt i=>by simpa[fB,d]using i);unfold HY at h;split at h;rename_i b e;split at h;rename_i c;cases h;refine fU.put rfl λM a=>?_;simp only[dM,d,HY,g M a,b,e,c];cases h;rename_i b e;split at h;rename_i c;cases h;refine fU.put rfl λM a=>?_;simp only[dM,d,HY,g M a,b,e,c];cases h;cases h
theorem HF {v:AV}{s}(h:v.now s.ep=O):v.fresh s=v:=by
 cases v with
 |DZ b=>rfl
 |val g S=>
  simp only[AV.now,aL]at h;simp only[AV.fresh];congr 1;have:S.map s.fresh=S.map id:=List.map_congr_left λc a=>by have hn:=h c a;unfold AS.fresh;split;simp only[AC.now]at hn;rw[hn];rfl;rfl
  rw[this,List.map_id]
theorem aek {v:AV}{st M}(c:M.ep=st.ep)(h:v.now st.ep=O\/∃g a b j t e d,v=.val g [.sl (.loc a (I (.box b j,t))) e d]/\nth M.boxes b=nth st.boxes b):v.fresh M=v.fresh st:=by rcases h with h|⟨g,a,b,j,t,e,d,rfl,f⟩;rw[HF h,HF (by rw[c];exact h)];simp only[AV.fresh,gC,List.map_nil];congr 2;unfold AS.fresh;simp only[AS.gN,c,f]
theorem U6 {i}(l:o.op=.indexAddr T x i)(f:fb E Y X o st=O)(h:qY E o T x i st I=I R):fU E Q Y X o st R:=by
 have r:∀M,ki Y X o st M->M.rd x=st.rd x/\M.rd i=st.rd i:=λM a=>
  ⟨a.rd (λt m=>by simp[fB,l,m]),a.rd (λt m=>by simp[fB,l,m])⟩
 have hf2:∀M,ki Y X o st M->(st.rd x).fresh M=(st.rd x).fresh st:=λM a=>by refine aek a.ep ?_;simp only[fb,l,dW]at f;rcases f with hn|hn;exact .inl hn;split at hn;rename_i g s b j t e q p;exact .inr ⟨g,s,b,j,t,e,q,p,a.box b (by simpa using hn)⟩;cases hn
 unfold qY at h;split at h;rename_i z A e q k n u p w;split at h;rename_i v;cases c:idx q n with|none=>rw[c]at h;cases h|some y=>rw[c]at h;cases h;refine fU.put rfl λM a=>?_;have d:=hf2 M a;rw[p]at d;simp only[dM,l,qY,(r M a).1,(r M a).2,d,u,w,a.ep,aI v,c,U]
 cases h;cases h
theorem afp {i}(c:o.op=.index T x i)(h:JO E o T x i st I=I R):fU E Q Y X o st R:=by
 have e:∀M,ki Y X o st M->M.rd x=st.rd x/\M.rd i=st.rd i:=λM b=>
  ⟨b.rd (λt d=>by simp[fB,c,d]),b.rd (λt d=>by simp[fB,c,d])⟩
 unfold JO at h;split at h;rename_i s k n j g;split at h;rename_i f;cases a:idx s n with|none=>rw[a]at h;cases h|some y=>rw[a]at h;cases h;refine fU.put rfl λM b=>?_;simp only[dM,c,JO,(e M b).1,(e M b).2,j,g,aI f,a,U]
 cases h;cases h
theorem fU.new {v}(h:R=(st.iC o.dst).put o.dst v)(a:∀M,ki Y X o st M->dM E Q Y o M I=I ((M.iC o.dst).put o.dst v)):fU E Q Y X o st R:=⟨Qj o v,Zz v,by rw[Si];exact h,λM b=>by rw[Si];exact a M b⟩
theorem ki.kL (a:ki Y X o st M):M.kL o.dst=st.kL o.dst:=by funext j;cases b:o.dst with|none=>rfl|some d=>simp only[AS.kL,(a.dst d b).1]
theorem Rj {i g n}{f:AS->Int->Int->aS AS}(hs:∀M,ki Y X o st M->i.map M.rd=i.map st.rd/\g.map M.rd=g.map st.rd)(h:rG st i g n (f st)=I R):∃a b,f st a b=I R/\∀M,ki Y X o st M->rG M i g n (f M)=f M a b:=by unfold rG at h;split at h;rename_i d e;exact⟨_,_,h,λM c=>by simp only[rG,(hs M c).1,(hs M c).2,d,e]⟩;rename_i d e;exact⟨_,_,h,λM c=>by simp only[rG,(hs M c).1,(hs M c).2,d,e]⟩;rename_i d e;exact⟨_,_,h,λM c=>by simp only[rG,(hs M c).1,(hs M c).2,d,e]⟩;rename_i d e;exact⟨_,_,h,λM c=>by simp only[rG,(hs M c).1,(hs M c).2,d,e]⟩;cases h
theorem afq {r m}(j:o.op=.slice T x r m W)(J:td Y o=O)(w:fb E Y X o st=O)(h:Ix E Y o T x r m st I=I R):fU E Q Y X o st R:=by
 have D:∀M,ki Y X o st M->M.rd x=st.rd x:=λM c=>c.rd (λt p=>by simp[fB,j,p]);have C:∀M,ki Y X o st M->r.map M.rd=r.map st.rd/\m.map M.rd=m.map st.rd:=by
  intro M c;constructor;cases r with|none=>rfl|some y=>simp only[eP];rw[c.rd (λt p=>by simp[fB,j,tmO,p])]
  cases m with|none=>rfl|some y=>simp only[eP];rw[c.rd (λt p=>by simp[fB,j,tmO,p])]
 have n:(st.rd x).now st.ep=true:=by simpa[fb,j]using w
 have l:∀M,ki Y X o st M->(st.rd x).fresh M=st.rd x:=λM c=>HF (by rw[c.ep];exact n);have k:NJ Y o=false:=by simpa[td,j]using J
 unfold Ix at h;rw[aK (by simp[k]),HF n]at h;split at h;rename_i s q;split at h;rename_i v;obtain⟨a,b,i,u⟩:=Rj (f:=λA a b=>U (sub s a b) λz=>I (A.put o.dst (.one (.str z)))) C h;cases d:sub s a b with|none=>rw[d]at i;cases i|some z=>rw[d]at i;cases i;refine fU.put rfl λM c=>?_;have g:=l M c;rw[q]at g;simp only[dM,j,Ix,k,bD,cY,D M c,q,g,aI v];rw[u M c,d];rfl
 cases h;rename_i H e F q;split at h;rename_i v;obtain⟨a,b,i,u⟩:=Rj (f:=λA a b=>U (sub F a b) λB=>I (A.put o.dst (.one (.sl (Xy Y o H a) e B)))) C h;cases d:sub F a b with|none=>rw[d]at i;cases i|some z=>rw[d]at i;cases i;refine fU.put rfl λM c=>?_;have g:=l M c;rw[q]at g;simp only[dM,j,Ix,k,bD,cY,D M c,q,g,c.ep,aI v];rw[u M c,d];rfl
 cases h;cases h
theorem Pr {args}(b:∀t,t∈Zw args->t∈fB o)(a:ki Y X o st M):args.map M.rd=args.map st.rd:=by apply List.map_congr_left;intro x d;exact a.rd (λt c=>b t (by simp only[Zw,List.mem_flatMap];exact⟨x,d,c⟩))
theorem am0 (d:o.op=.call {callee:=.builtin .len,args,argTypes:=P})(h:Xj E o P.toList args.toList st I=I R):fU E Q Y X o st R:=by have f:∀M,ki Y X o st M->args.toList.map M.rd=args.toList.map st.rd:=λM b=>Pr (λt g=>by simp only[fB,d];exact g) b;unfold Xj at h;split at h;rename_i t s a e;split at h;rename_i c;cases h;refine fU.put rfl λM b=>?_;simp only[dM,d,Xj,f M b,a,e,aI c];cases h;rename_i t _ _ i a e;split at h;rename_i c;cases h;refine fU.put rfl λM b=>?_;simp only[dM,d,Xj,f M b,a,e,aI c];cases h;cases h
theorem am2 (b:o.op=.call {callee:=.builtin .min,args,argTypes:=P})(h:Zc o args.toList st I=I R):fU E Q Y X o st R:=by have c:∀M,ki Y X o st M->args.toList.map M.rd=args.toList.map st.rd:=λM a=>Pr (λt d=>by simp only[fB,b];exact d) a;unfold Zc at h;split at h;rename_i e;cases h;refine fU.put rfl λM a=>?_;simp only[dM,b,Zc,c M a,e];cases h
theorem am1 (b:o.op=.call {callee:=.builtin .max,args,argTypes:=P})(h:Zb o args.toList st I=I R):fU E Q Y X o st R:=by have c:∀M,ki Y X o st M->args.toList.map M.rd=args.toList.map st.rd:=λM a=>Pr (λt d=>by simp only[fB,b];exact d) a;unfold Zb at h;split at h;rename_i e;cases h;refine fU.put rfl λM a=>?_;simp only[dM,b,Zb,c M a,e];cases h
theorem amK {l c}(h:c.aqI l=O)(f:∀t∈l,M.get t=st.get t):M.Y8 c=st.Y8 c:=by
 cases c with
 |sl a e k=>
  cases a with
  |loc i g=>cases g with|none=>rfl|some q=>obtain⟨r,t⟩:=q;cases r with|slot b j=>have d:M.get b=st.get b:=f b (by simpa[AC.aqI]using h);simp only[AS.Y8,AS.gN,d]|box _ _=>rfl|io _=>rfl
  |_=>rfl
 |_=>rfl
theorem aiy {l}(d:RE l st x=O)(j:∀t∈l,M.get t=st.get t)(h:∀t∈tm x,M.get t=st.get t):Jk M x=Jk st x/\Kt M x=Kt st x:=by
 cases x with
 |tmp t=>have b:=h t (by simp[tm]);simp only[RE]at d;cases a:st.get t with|DZ k=>exact⟨by simp only[Jk,b,a],by simp only[Kt,b,a]⟩|val g S=>rw[a]at d;have e:S.map M.Y8=S.map st.Y8:=List.map_congr_left λc i=>amK (aL.1 d c i) j;exact⟨by simp only[Jk,b,a,e],by simp only[Kt,b,a,e]⟩
 |const v=>exact⟨rfl,rfl⟩
 |func f=>exact⟨rfl,rfl⟩
 |global g=>exact⟨rfl,rfl⟩
theorem Zd (w:o.op=.call {callee:=.value f,args,argTypes:=P})(F:fb E Y X o st=O){k}(hf:st.rd f=.val G [.fn k])(B:(Q k).bx=O)(m:(Q k).cur=O)(h:Ct Q o k args.toList st I=I R):fU E Q Y X o st R:=by
 unfold Ct at h;split at h;rename_i L i l;split at h;rename_i s e;have a:AO Y X (erS Y o) st (L::i)=true:=by have N:=F;simp only[fb,w,af]at N;rw[<-l];exact N.1
 have K:∃q,L=.tmp q/\X.contains s=G/\Y.sb q=I s/\(match (nth st.boxes s).getD W with|some S=>S.all AC.Qq|none=>O)=O/\i.all (RE (erS Y o) st)=true:=by cases L with|tmp q=>simp only[AO,e,ao1,af,aW,bw]at a;exact⟨q,rfl,a.1.1.1,a.1.1.2,a.1.2,a.2⟩|const v=>simp only[AO,e,AV.akJ]at a;cases a|func v=>simp only[AO,e,AV.akJ]at a;cases a|global v=>simp only[AO,e,AV.akJ]at a;cases a
 obtain⟨q,rfl,hX,H,j,J⟩:=K;split at h;rename_i S u;rw[u]at j;simp only at j;cases C:(S.all (AC.Gx (L8 S))&&i.all (Kt st))with
 |false=>rw[C]at h;cases h
 |true=>
  rw[C]at h;simp only[ae]at h;cases r:(Q k).fn (.val O (S.map AC.adm)::i.map (Jk st))with
  |none=>rw[r]at h;cases h
  |some y=>
   rw[r]at h;simp only[U]at h;cases p:(((Q k).back y).all (AC.Gx O)&&((Q k).av y).am6)with
   |false=>rw[p]at h;cases h
   |true=>
    rw[p]at h;simp only[ae,m,j,bR,bI]at h;subst h;refine⟨⟨o.dst.toList.map λd=>(d,((Q k).av y).L9 st.ep (st.kL o.dst)),I (s,we (L8 S) (λ_=>W) 0 ((Q k).back y)),o.dst⟩,⟨λx c=>?_,λb hb=>?_,λd D=>D⟩,?_,λM n=>?_⟩;simp only[cX]at c;obtain⟨d,D,rfl⟩:=c;simp[writes,D];cases hb;simp[NM,w,l,H];unfold Sp.apply AS.put AS.iC AS.gD;cases o.dst<;>rfl;have V:M.rd f=st.rd f:=n.rd (λt z=>by simp[fB,w,z]);have T:∀x∈Operand.tmp q::i,∀t∈tm x,t∈fB o:=by intro x c t z;simp only[fB,w,aB,Zw,List.mem_flatMap,l];exact .inr ⟨x,c,z⟩
    have Z:M.rd (.tmp q)=st.rd (.tmp q):=n.rd (T _ aD);have e3:nth M.boxes s=nth st.boxes s:=n.box s hX;have A:∀x∈i,Jk M x=Jk st x/\Kt M x=Kt st x:=λx c=>aiy (aL.1 J x c) n.er λt z=>n.get t (T x (by simp[c]) t z);have e5:i.map (Jk M)=i.map (Jk st):=List.map_congr_left λx c=>(A x c).1;have e6:i.all (Kt M)=i.all (Kt st):=by rw[fE];simp only[aL];exact⟨λg x c=>by rw[<-(A x c).2];exact g x c,λg x c=>by rw[(A x c).2];exact g x c⟩
    simp only[dM,w,Ma,V,hf,B,ae,Ct,l,Z,e,e3,u,e5,e6,C,r,U,p,m,j,bR,n.ep,n.kL];unfold Sp.apply AS.put AS.iC AS.gD;cases o.dst<;>rfl
 cases h;cases h;cases h
theorem aiI (a:∀f,(Q f).io=G/\((Q f).bx=O->(Q f).cur=O)/\(Q f).pr=G)(g:o.op=.call {callee:=.value f,args,argTypes:=P})(e:fb E Y X o st=O)(h:Ma Q o f args.toList st I=I R):fU E Q Y X o st R:=by
 have l:∀M,ki Y X o st M->M.rd f=st.rd f/\(args.toList.map λx=>((M.rd x).fresh M).asArg M.ep)=args.toList.map λx=>((st.rd x).fresh st).asArg st.ep:=by
  intro M b;refine⟨b.rd (λt n=>by simp[fB,g,n]),?_⟩;apply List.map_congr_left;intro x p;have i:(st.rd x).now st.ep=true:=by simp only[fb,g,af,aL]at e;exact e.2 x p
  rw[b.rd (λt n=>by simp only[fB,g,aB,Zw,List.mem_flatMap];exact .inr ⟨x,p,n⟩),HF i,HF (s:=M) (by rw[b.ep];exact i),b.ep]
 unfold Ma at h;split at h
 ·rename_i k m
  cases c:(Q k).bx with
  |true=>rw[c]at h;exact Zd g e m c ((a k).2.1 c) h
  |false=>
  rw[c,(a k).2.2,(a k).1]at h
  simp only[ab]at h
  cases j:(Q k).fn (args.toList.map λx=>((st.rd x).fresh st).asArg st.ep)with
  |none=>rw[j]at h;cases h
  |some y=>
   rw[j]at h
   simp only[U]at h
   cases d:(Q k).sel y with
   |true=>
    rw[d]at h
    cases h
    refine fU.new rfl λM b=>?_
    simp only[dM,g,Ma,(l M b).1,m,(a k).1,c,(a k).2.2,ab]
    rw[(l M b).2,j]
    simp only[U,d,ae,b.ep,b.kL]
   |false=>
    rw[d]at h
    cases h
    refine fU.new rfl λM b=>?_
    simp only[dM,g,Ma,(l M b).1,m,(a k).1,c,(a k).2.2,ab]
    rw[(l M b).2,j]
    simp only[U,d,ab,b.ep,b.kL]
 cases h
theorem Ze {src dst}(f:o.op=.convert src dst x)(h:qi E o src dst x st I=I R):fU E Q Y X o st R:=by
 have g:∀M,ki Y X o st M->M.rd x=st.rd x:=λM a=>a.rd (λt p=>by simpa[fB,f]using p);unfold qi at h;split at h;rename_i b c d;cases h;refine fU.put rfl λM a=>?_;simp only[dM,f,qi,g M a,b,c,d];rename_i b c d;cases h;refine fU.put rfl λM a=>?_;simp only[dM,f,qi,g M a,b,c,d];rename_i q val s l b c d;split at h;rename_i j;unfold room at h;split at h;rename_i m;cases h;refine fU.new (v:=.one (.sl (.own (st.kL o.dst 0)) (.int .u8) (dU s))) rfl λM a=>?_;have e:∀k:AS->aS AS,qi E o src dst x M k=if E.bytes dst then room s.length (k (M.wD o.dst (.int .u8) (dU s))) else none:=by intro k;unfold qi;rw[g M a,b,c,d];obtain⟨i,ct,of⟩:=val;cases i with|true=>rfl|false=>cases ct with|str=>exact(l _ rfl).elim|_=>rfl
 simp only[dM,f];rw[e,aI j,room,aI m,AS.wD,a.kL];cases h;cases h;rename_i val q n r b c d;split at h;rename_i j;cases h;refine fU.put rfl λM a=>?_;have e:∀k:AS->aS AS,qi E o src dst x M k=if E.bytes src/\n.live M.ep then k (M.put o.dst (.one (.str (aZ r)))) else none:=by intro k;unfold qi;rw[g M a,b,c,d];obtain⟨i,ct,of⟩:=val;cases i with|true=>rfl|false=>cases ct<;>rfl
 simp only[dM,f];rw[e,a.ep,aI j];cases h;cases h
theorem TN {d v}:(⟨[(d,v)],I (d,S),W⟩:Sp).apply st=(st.gD d (I S)).put (I d) v:=rfl
theorem afm (e:o.op=.alloc T)(h:KY E o T st I=I R):fU E Q Y X o st R:=by unfold KY at h;split at h;rename_i d g a i;split at h;rename_i k;cases h;refine⟨⟨[(d,.one (.ptr d 0))],I (d,cellsOf g.ct (.own W) g.ct.zero),W⟩,⟨λx f=>?_,λb c=>?_,λ_ l=>by cases l⟩,?_,λM j=>?_⟩;simp only[aY]at f;subst f;simp[writes,a];cases c;simp[NM,e,a];rw[TN,a];simp only[dM,e,KY,a,i,(j.dst d a).2,k,TN];cases h;cases h
def ug (st:AS):Operand->Z (Nat×AV)
 | .tmp t=>[(t,(st.get t).bz st.ep)]
 |_=>[]
theorem JR l a b:nu l (a++b)=nu (nu l a) b:=by induction a generalizing l with|nil=>rfl|cons x a c=>exact c _
def AS.nK (st:AS)l:={st with slots:=nu st.slots l}
theorem xV a b:st.nK (a++b)=(st.nK a).nK b:=by simp only[AS.nK,JR]
theorem KS x:(st.take x).2=st.nK (ug st x):=by cases x<;>rfl
theorem LV (a:M.ep=st.ep)(h:∀t∈tm x,M.get t=st.get t):(M.take x).1=(st.take x).1/\(M.take x).2=M.nK (ug st x):=by cases x with|tmp t=>have:=h t (by simp[tm]);refine⟨this,?_⟩;rw[KS];simp only[ug,this,a]|const v=>exact⟨rfl,rfl⟩|func f=>exact⟨rfl,rfl⟩|global g=>exact⟨rfl,rfl⟩
theorem Sg:∀y∈ug st x,y.1∈tm x:=by cases x<;>simp[ug,tm]
theorem aiK (f:o.op=.move x)(h:Ky Y o x st I=I R):fU E Q Y X o st R:=by
 unfold Ky at h;cases b:o.dst with
 |none=>rw[b]at h;cases h
 |some d=>
  rw[b]at h;cases e:Y.mv.contains d with
  |false=>simp only[e,bD,cY]at h;cases h;refine fU.put (v:=st.rd x) (by rw[b]) λM a=>?_;have g:M.rd x=st.rd x:=a.rd (λt k=>by simpa[fB,f]using k);simp only[dM,f,Ky,b,e,bD,cY,g]
  |true=>
   simp only[e,dm]at h;cases h;have g:∀M,ki Y X o st M->(M.take x).1=(st.take x).1/\(M.take x).2=M.nK (ug st x):=λM a=>LV a.ep λt k=>a.get t (by simpa[fB,f]using k);refine⟨⟨ug st x++[(d,(st.take x).1)],W,W⟩,⟨λy c=>?_,λ_ j=>(by cases j),λ_ j=>(by cases j)⟩,?_,λM a=>?_⟩;rcases aB.1 c with c|c;have:=Sg y c;have i:d∈Y.mv:=by simpa using e
   simp[writes,NH,f,b,i,fB,this];simp only[aY]at c;subst c;simp[writes,b];rw[KS];show _=st.nK _;rw[xV];rfl;simp only[dM,f,Ky,b,e,dm,(g M a).1,(g M a).2];show I ((M.nK (ug st x)).put (I d) (st.take x).1)=I (M.nK _);rw[xV];rfl
theorem aea {a}(h:S.all AC.mj=O):bz a S=S:=by
 rw[aL]at h;unfold bz;have:S.map (AC.borrow a W)=S.map id:=List.map_congr_left λc b=>by have:=h c b;cases c<;>first|rfl|(simp[AC.mj]at this)
 rw[this,List.map_id]
theorem aso {s:AS}{c}(h:s.get t=.DZ c):s.put (I t) (.DZ c)=s:=by cases s with|mk b boxes g f io=>simp only[AS.put,AS.mk.injEq,lJ];rw[iA];apply dK;intro i;rw[bX];split;rename_i d;subst d;simp only[AS.get,fJ]at h;split;rename_i e;rw[ah e]at h⊢;simp only[gj]at h;rw[h];rename_i a;rw[cn (nC a)];rfl
theorem Zf {i:Nat}(f:o.op=.extract (.tmp t) i)(a:fb E Y X o st=O)(h:qm o t i st I=I R):fU E Q Y X o st R:=by
 have r:∀M,ki Y X o st M->M.get t=st.get t:=λM e=>e.get t (by simp[fB,f]);unfold qm at h;simp only[fb,f]at a;split at h
 ·rename_i c m;rw[m]at a;split at h
  ·rename_i g S hn;simp only[hn]at a;have n:S.all AC.mj=O\/∃d,o.dst=I d/\Y.mv.contains d=true:=by cases b:o.dst with|none=>simp only[b,Bool.or_false]at a;exact .inl a|some d=>simp only[b,dW]at a;rcases a with h|h;exact .inl h;exact .inr ⟨d,rfl,h⟩
   rcases n with a|⟨d,b,p⟩;rotate_left;cases h;refine⟨⟨[(t,.DZ (kA c i (g,bz 0 S))),(d,.val g S)],W,W⟩,⟨λx u=>?_,(λ_ v=>by cases v),(λ_ w=>by cases w)⟩,?_,λM e=>?_⟩;simp only[bW,List.not_mem_nil,or_false]at u;rcases u with rfl|rfl;simp only[writes,NH,f,b,p,ae,fB];simp;simp only[writes,b];simp;rw[b];rfl;have l:M.get t=.DZ c:=by rw[r M e,m]
   simp only[dM,f,qm,l,hn,b];rfl;skip;have q:kA c i (g,S)=c:=by rw[iA];rw[fJ]at hn;apply dK;intro k;rw[bX];split;rename_i y;subst y;obtain⟨z,A⟩:=aA.1 hn;rw[aI z,hn];rfl
   have j:∀s:AS,s.get t=.DZ c->(s.put (I t) (.DZ (kA c i (g,bz 0 S))))=s:=λs hs=>by rw[aea a,q,aso hs]
   rw[j st m]at h;cases h;refine fU.put rfl λM e=>?_;have l:M.get t=.DZ c:=by rw[r M e,m]
   simp only[dM,f,qm,l,hn];rw[j M l]
  cases h
 cases h
def Hy (st:AS):Operand->Z (Nat×AV)
 | .tmp t=>[(t,(st.get t).bz st.ep)]
 |_=>[]
theorem Yt (st:AS)x:(st.take x).2=⟨nu st.slots (Hy st x),st.boxes,st.ep,st.iss,st.io⟩:=by cases x<;>rfl
theorem afr {pp:Nat}(d:o.op=.store T (.tmp pp) x)(L:o.dst=W)(i:td Y o=O)(a:fb E Y X o st=O)(h:EP E T (.tmp pp) x st I=I R):fU E Q Y X o st R:=by
 have V:∀M,ki Y X o st M->M.rd (.tmp pp)=st.rd (.tmp pp):=λM c=>c.rd (λt Z=>by simp only[fB,d,aB];exact .inl Z);have A:(Y.sb pp).isNone=false:=by simp only[td,d,af]at i;cases m:Y.sb pp with|none=>rw[m]at i;cases i.1|some _=>rfl
 simp only[fb,d,A,iR,cq]at a;unfold EP at h;split at h;rename_i sh s F N n;rw[n]at a;simp only[af,aW,bw]at a;split at h;rename_i K J H k;have C:(st.take x).1=.val K J:=by rw[k]
 have j:H=⟨nu st.slots (Hy st x),st.boxes,st.ep,st.iss,st.io⟩:=by rw[<-Yt,k]
 split at h;rename_i S m;split at h;rename_i e;split at h;rename_i w;cases h;have u:∀M,ki Y X o st M->nth M.boxes s=nth st.boxes s:=λM c=>c.box s a.1;refine⟨⟨Hy st x,I (s,fV S F J),W⟩,⟨λy D=>?_,λb p=>?_,λ_ U=>by cases U⟩,?_,λM c=>?_⟩;cases x with|tmp t=>simp only[Hy,aY]at D;subst D;simp only[writes,NH,d,ae,fB,L];simp[tm]|_=>simp[Hy]at D
 cases p;simp only[NM,d,a.2];simp;rw[j];rfl;have l:(M.take x).1=(st.take x).1/\Hy M x=Hy st x:=by cases x with|tmp t=>have P:M.get t=st.get t:=c.get t (by simp[fB,d,tm]);simp only[AS.take,Hy,P,c.ep];simp|const v=>exact⟨rfl,rfl⟩|func f=>exact⟨rfl,rfl⟩|global g=>exact⟨rfl,rfl⟩
 have B:M.take x=(.val K J,⟨nu M.slots (Hy st x),M.boxes,M.ep,M.iss,M.io⟩):=by rw[<-l.2,<-Yt,<-C,<-l.1]
 have q:(nth M.boxes s).getD W=I S:=by rw[u M c];rw[j]at m;exact m
 have z:Ii Y o=false:=by simp only[td,d,af,aW]at i;exact i.2
 simp only[dM,d,L,z,bD,cY,EP,N,V M c,n,B,q,aI e,aI w];rfl;cases h;cases h;cases h;cases h;rename_i r _ _ _ _ _ _ n;rw[n]at a;cases r<;>simp at a;cases h
theorem acJ (f:o.op=.assign x)(q:td Y o=O)(h:Cs E Y o x st I=I R):fU E Q Y X o st R:=by
 have j:∀M,ki Y X o st M->(M.take x).1=(st.take x).1/\(M.take x).2=M.nK (ug st x):=λM b=>LV b.ep λt s=>b.get t (by simpa[fB,f]using s);have c:Ii Y o=false:=by simpa[td,f]using q
 unfold Cs at h;split at h;rename_i i a;split at h;rename_i e n;cases h;refine fU.put rfl λM b=>?_;have k:M.take x=(.val G [.mP],M.nK (ug st x)):=Prod.ext (by rw[(j M b).1,a]) (j M b).2;simp only[dM,f,Cs,c,bD,cY,k,n];cases h;rename_i v i r a;cases h;have m:i=st.nK (ug st x):=by rw[<-KS,a]
 refine⟨⟨ug st x++o.dst.toList.map λd=>(d,v),W,W⟩,⟨λy g=>?_,λ_ l=>(by cases l),λ_ l=>(by cases l)⟩,?_,λM b=>?_⟩;rcases aB.1 g with g|g;have:=Sg y g;simp[writes,NH,f,fB,this];obtain⟨d,p,rfl⟩:=cX.1 g;simp[writes,p];rw[m];show _=st.nK _;rw[xV];cases o.dst<;>rfl;have k:M.take x=(v,M.nK (ug st x)):=Prod.ext (by rw[(j M b).1,a]) (j M b).2;simp only[dM,f,Cs,c,bD,cY,k];show I ((M.nK (ug st x)).put o.dst v)=I (M.nK _);rw[xV];cases o.dst<;>rfl
theorem mQ {α}l i(v:α)t:nth (kA l i v) t=if i=t then(if i<l.length then I v else W) else nth l t:=by rw[fJ,iA,fJ,bX]
theorem XK l a:(nu l a).length=l.length:=by induction a generalizing l with|nil=>rfl|cons x a b=>rw[nu,b,iA,aC]
theorem ai3 {l b}a(c:b.length=l.length)t(h:nth b t=nth l t):nth (nu b a) t=nth (nu l a) t:=by induction a generalizing l b with|nil=>exact h|cons x a d=>refine d (by rw[iA,iA,aC,aC,c]) ?_;rw[mQ,mQ,c,h]
theorem aiQ (h:M.get t=st.get t)(c:M.slots.length=st.slots.length):nth M.slots t=nth st.slots t:=by unfold AS.get at h;rw[fJ,fJ]at h⊢;rcases ca t st.slots.length with b|a;rw[ah b,ah J]at h⊢;simpa using h;rw[cn a,cn J]
def nk (st:AS):Z Operand->Z (Nat×AV)
 |[]=>[]
 |x::a=>ug st x++nk (st.nK (ug st x)) a
theorem IQ:∀(b:Z Operand)(st:AS),∀y∈nk st b,y.1∈Zw b
 |[],_,y,a=>by cases a
 |x::b,st,y,a=>by simp only[Zw,List.flatMap_cons,aB];rcases aB.1 a with a|a;exact .inl (Sg y a);exact .inr (IQ b _ y a)
theorem J0:∀(a:Z Operand)(st M:AS),M.ep=st.ep->M.slots.length=st.slots.length->(∀t∈Zw a,nth M.slots t=nth st.slots t)->
 (gQ M a).1=(gQ st a).1/\(gQ M a).2=M.nK (nk st a)
 |[],st,M,_,_,_=>⟨rfl,rfl⟩
 |x::a,st,M,b,e,d=>by
  have k:∀t∈tm x,M.get t=st.get t:=λt c=>by unfold AS.get;rw[d t (by simp[Zw,c])]
  obtain⟨h,i⟩:=LV (st:=st) (M:=M) b k;have j:=KS (st:=st) x;obtain⟨k1,k2⟩:=J0 a (st.nK (ug st x)) (M.nK (ug st x)) b (by simp only[AS.nK,XK,e]) (λt c=>ai3 _ e t (d t (by simp only[Zw,List.flatMap_cons,aB];exact .inr c)));have f:gQ st (x::a)=((st.take x).1::(gQ (st.take x).2 a).1,(gQ (st.take x).2 a).2):=rfl;have g:gQ M (x::a)=((M.take x).1::(gQ (M.take x).2 a).1,(gQ (M.take x).2 a).2):=rfl;rw[f,g,h,i,j];refine⟨by rw[k1],?_⟩;show(gQ (M.nK (ug st x)) a).2=_;rw[k2,nk,xV]
theorem LU a:(gQ st a).2=st.nK (nk st a):=(J0 a st st rfl rfl (λ_ _=>rfl)).2
theorem ki.gQ (b:ki Y X o st M){a}(d:∀t∈Zw a,t∈fB o):(gQ M a).1=(Dn.gQ st a).1/\(Dn.gQ M a).2=M.nK (nk st a):=J0 a st M b.ep b.len λt c=>aiQ (b.get t (d t c)) b.len
theorem afn (e:o.op=.build T parts)(h:JF E o T parts.toList st I=I R):fU E Q Y X o st R:=by
 have i:∀t∈Zw (parts.toList.map (·.2)),t∈fB o:=λt p=>by simp only[fB,e];exact p
 unfold JF at h;split at h;rename_i ct r k;split at h;rename_i q g a;have f:g=st.nK (nk st (parts.toList.map (·.2))):=by rw[<-LU,a]
 split at h;rename_i S m;cases h;refine⟨⟨nk st (parts.toList.map (·.2))++o.dst.toList.map λd=>(d,.val O S),W,W⟩,⟨λy b=>?_,λ_ c=>(by cases c),λ_ c=>(by cases c)⟩,?_,λM l=>?_⟩;rcases aB.1 b with b|b;have:=i _ (IQ _ _ y b);simp[writes,NH,e,this];obtain⟨d,n,rfl⟩:=cX.1 b;simp[writes,n];rw[f];show _=st.nK _;rw[xV];cases o.dst<;>rfl;obtain⟨k1,k2⟩:=l.gQ i;have j:gQ M (parts.toList.map (·.2))=(q,M.nK (nk st (parts.toList.map (·.2)))):=Prod.ext (by rw[k1,a]) k2;simp only[dM,e,JF,k,j,m];show I ((M.nK _).put o.dst _)=I (M.nK _);rw[xV];cases o.dst<;>rfl;cases h;cases h
theorem fU.at3 {v}(j:NH Y o=O)(i:∀y∈tl,y.1∈fB o)(h:R=((st.nK tl).iC o.dst).put o.dst v)(e:∀M,ki Y X o st M->dM E Q Y o M I=I (((M.nK tl).iC o.dst).put o.dst v)):fU E Q Y X o st R:=by
 have b:∀s:AS,(⟨tl++o.dst.toList.map λd=>(d,v),W,o.dst⟩:Sp).apply s=((s.nK tl).iC o.dst).put o.dst v:=by intro s;cases o.dst with|none=>simp only[Sp.apply,Option.toList,List.map_nil,bm,AS.nK,AS.iC,AS.put]|some d=>simp only[Sp.apply,Option.toList,gC,List.map_nil,JR,AS.nK,AS.iC,AS.put,nu]
 refine⟨⟨tl++o.dst.toList.map λd=>(d,v),W,o.dst⟩,⟨λy a=>?_,λ_ c=>(by cases c),λd c=>c⟩,by rw[b];exact h,λM f=>by rw[b];exact e M f⟩;rcases aB.1 a with a|a;simp[writes,j,i y a];obtain⟨d,g,rfl⟩:=cX.1 a;simp[writes,g]
theorem HI {d}:(st.nK tl).kL d=st.kL d:=rfl
theorem Ta {len}(b:o.op=.buildSlice T len parts)(h:qg E o T len parts.toList st I=I R):fU E Q Y X o st R:=by
 have g:∀t∈Zw (parts.toList.map (·.2)),t∈fB o:=λt m=>by simp only[fB,b];exact m
 unfold qg at h;split at h;rename_i e j;split at h;rename_i l;split at h;rename_i p d a;have c:d=st.nK (nk st (parts.toList.map (·.2))):=by rw[<-LU,a]
 split at h;rename_i q k;cases h;refine fU.at3 (tl:=nk st (parts.toList.map (·.2))) (v:=.one (.sl (.own (st.kL o.dst 0)) e q)) (by simp[NH,b]) (λy n=>g _ (IQ _ _ y n)) ?_ λM f=>?_;rw[c,AS.wD,HI];obtain⟨k1,k2⟩:=f.gQ g;have i:gQ M (parts.toList.map (·.2))=(p,M.nK (nk st (parts.toList.map (·.2)))):=Prod.ext (by rw[k1,a]) k2;simp only[dM,b,qg,j,i,k,aI l];rw[AS.wD,HI,f.kL];cases h;cases h;cases h
theorem U7 {n c}(d:o.op=.makeSlice T n c)(h:uF E o T n c st I=I R):fU E Q Y X o st R:=by
 have i:∀M,ki Y X o st M->M.rd n=st.rd n/\M.rd c=st.rd c:=λM a=>
  ⟨a.rd (λt g=>by simp[fB,d,g]),a.rd (λt g=>by simp[fB,d,g])⟩
 unfold uF at h;split at h;rename_i e len j k hn l;split at h;rename_i b;unfold room at h;split at h;rename_i f;cases h;refine fU.new (v:=.one (.sl (.own (st.kL o.dst 0)) e (List.replicate len.toNat e.zero))) rfl λM a=>?_;simp only[dM,d,uF,(i M a).1,(i M a).2,k,hn,l,aI b,room,aI f,AS.wD,a.kL];cases h;cases h;cases h
theorem acI (l:o.op=.call {callee:=.builtin .append,args,argTypes:=P})(h:EV E o P.toList args.toList st I=I R):fU E Q Y X o st R:=by
 have F:∀t∈Zw args.toList,t∈fB o:=λt N=>by simp only[fB,l];exact N
 unfold EV at h;split at h;rename_i t S s x n f;have D:∀u∈Zw [s,x],u∈fB o:=by rw[<-f];exact F
 have k:∀M,ki Y X o st M->(M.take s).1=(st.take s).1/\((M.take s).2.take x).1=((st.take s).2.take x).1/\((M.take s).2.take x).2=M.nK (nk st [s,x]):=by intro M d;obtain⟨k1,k2⟩:=d.gQ D;simp only[Dn.gQ,List.cons.injEq,lJ]at k1 k2;exact⟨k1.1,k1.2,k2⟩
 have m:((st.take s).2.take x).2=st.nK (nk st [s,x]):=LU (st:=st) [s,x];split at h;rename_i q e r p c;split at h;rename_i L w K j b;split at h;rename_i C;subst C;split at h;rename_i B;unfold room at h;split at h;rename_i g;cases h;have a:(st.take s).2=p:=by rw[c]
 have i:j=st.nK (nk st [s,x]):=by rw[<-m,a,b]
 refine fU.at3 (tl:=nk st [s,x]) (v:=.one (.sl (.own (st.kL o.dst 0)) w (r++K))) (by simp[NH,l]) (λy H=>D _ (IQ _ _ y H)) ?_ λM d=>?_;rw[i,AS.wD,HI];obtain⟨k1,k2,k3⟩:=k M d;have z:M.take s=(.val G [.sl (.own q) w r],(M.take s).2):=Prod.ext (by rw[k1,c]) rfl;have A:(M.take s).2.take x=(.val G [.sl L w K],M.nK (nk st [s,x])):=Prod.ext (by rw[k2,a,b]) k3;simp only[dM,l,EV,n,f];rw[z];simp only;rw[A];simp only[dite_true,d.ep,aI B,room,aI g,AS.wD,HI,d.kL];cases h;cases h;cases h;rename_i J j b;split at h;rename_i C;subst C;split at h;rename_i B;unfold room at h;split at h;rename_i g;cases h;have a:(st.take s).2=p:=by rw[c]
 have i:j=st.nK (nk st [s,x]):=by rw[<-m,a,b]
 refine fU.at3 (tl:=nk st [s,x]) (v:=.one (.sl (.own (st.kL o.dst 0)) (.int .u8) (r++dU J))) (by simp[NH,l]) (λy H=>D _ (IQ _ _ y H)) ?_ λM d=>?_;rw[i,AS.wD,HI];obtain⟨k1,k2,k3⟩:=k M d;have z:M.take s=(.val G [.sl (.own q) (.int .u8) r],(M.take s).2):=Prod.ext (by rw[k1,c]) rfl;have A:(M.take s).2.take x=(.val G [.str J],M.nK (nk st [s,x])):=Prod.ext (by rw[k2,a,b]) k3;simp only[dM,l,EV,n,f];rw[z];simp only;rw[A];simp only[dite_true,aI B,room,aI g,AS.wD,HI,d.kL];cases h;cases h;cases h;cases h;cases h;cases h
theorem amZ (k:o.op=.box T x)(h:abO o x st I=I R):fU E Q Y X o st R:=by
 have r:∀M,ki Y X o st M->(M.take x).1=(st.take x).1/\(M.take x).2=M.nK (ug st x):=λM a=>LV a.ep λt z=>a.get t (by simpa[fB,k]using z);unfold abO at h;split at h;rename_i d g S p e i;have f:p=st.nK (ug st x):=by rw[<-KS,i]
 split at h;rename_i q;split at h;rename_i w;cases h;have m:nth st.boxes d=I none:=by rw[f]at q;exact q
 have j:∀s:AS,(⟨ug st x++[(d,.one (.ptr d 0))],I (d,S),W⟩:Sp).apply s=((s.nK (ug st x)).gD d (I S)).put (I d) (.one (.ptr d 0)):=by intro s;simp only[Sp.apply,JR,AS.nK,AS.gD,AS.put,nu]
 refine⟨⟨ug st x++[(d,.one (.ptr d 0))],I (d,S),W⟩,⟨λy c=>?_,λb l=>?_,λ_ v=>(by cases v)⟩,?_,λM a=>?_⟩;rcases aB.1 c with c|c;have:=Sg y c;simp[writes,NH,k,fB,this];simp only[aY]at c;subst c;simp[writes,e];cases l;simp[NM,k,e];rw[j,f,e];have u:M.take x=(.val g S,M.nK (ug st x)):=Prod.ext (by rw[(r M a).1,i]) (r M a).2;have n:nth (M.nK (ug st x)).boxes d=I none:=by show nth M.boxes d=_;rw[(a.dst d e).2];exact m
 simp only[dM,k,abO,e,u,n,aI w,j];cases h;cases h;cases h
theorem Yk (e:∀f,(Q f).io=G/\((Q f).bx=O->(Q f).cur=O)/\(Q f).pr=G)(c:td Y o=O)(b:fb E Y X o st=O)(h:dM E Q Y o st I=I R):fU E Q Y X o st R:=by
 have i:=h;unfold dM at h;split at h;rename_i a;exact aiK a h;rename_i a;have d:Ii Y o=false:=by simpa[td,a]using c
 rw[aK (by simp[d])]at h;exact acJ a c h;rename_i a;exact aiL a h;rename_i a;exact afm a h;rename_i a;exact amZ a h;rename_i a;exact aiJ a c b h;rename_i T p x a;split at h;rename_i j;cases p with
 |tmp pp=>
  have d:Ii Y o=false:=by simp only[td,a,af,aW]at c;exact c.2
  rw[aK (by simp[d])]at h;exact afr a j c b h
 |const v=>simp[td,a]at c
 |func f=>simp[td,a]at c
 |global g=>simp[td,a]at c
 cases h;rename_i a;exact Xq a i;rename_i a;exact amY a h;rename_i a;exact aqa a h;rename_i a;exact afo a h;rename_i a;exact U6 a b h;rename_i a;exact afp a h;rename_i a;exact afn a h;rename_i a;exact Ta a h;rename_i a;exact U7 a h;rename_i a;exact afq a c b h;rename_i a;simp[td,a]at c;rename_i a;simp[td,a]at c;rename_i a;exact Ze a h;rename_i a;exact Zf a b h;rename_i a;exact am0 a h;rename_i a;exact am2 a h;rename_i a;exact am1 a h;rename_i a;exact acI a h;rename_i a;exact aiI e a b h;cases h
end Go.Dn
