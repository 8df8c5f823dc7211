import Derived.KernelRfl
import Derived.Test.YtehfjiddofkdnaaGreatPuX3
open Bool renaming false->G,true->O
open Option renaming none->W,some->I
namespace Go.Pu
open Go.Dn
open List (range)
set_option linter.unusedSimpArgs false
set_option linter.unusedVariables false
noncomputable section
variable {c:dv} {a:dX} {h h':Host} {N:Int} {hd j k x:Nat} {Q:Nat->Z UX->dq->Vector->Bool->Prop} {p:bQ} {s:JE} {R α:Type} {f:bc} {C:Z UX} {K:Z dY} {e:Z bQ} {ps:Z Port} {l:Z bc} {F P:gw} {m m' sent:cL} {g:cL×dq}
/- Plain laws of hosts' memory. -/
def jO k:=1280+1792*k
def Cw (k c:Nat):KW:=(3,0,384,((jO k+128+384*c:Nat):Int),0,(c:Int))
theorem abS {c}(b:k<=1)(a:c<4):ot (Cw k c)=true:=by grind[ot,Cw,jO,aR]
abbrev TS (C:Z UX):=C.map λc=>c.1.toNat
structure NR (m:List Bytes) (k:Nat) (q:dq) (p:gL) (hd x:Nat) (P:List Nat) (C:List UX) (F:List Nat):Prop where
 ring:q.1=fZ (jO k) 4 hd P.length
 row:uc m (jO k) 4 hd (P.map λc=>iM (Cw k c))
 dev:q.2.1=D6 (jO k+64) (x+C.length)
 ZS:q.2.2.1=D6 (jO k+64) x
 com:VJ m (jO k+64) x C
 pool:p=(((jO k+128:Nat):Int),384,4,F.map λc:Nat=>(c:Int))
 perm:(TS C++P++F).Perm [0,1,2,3]
 cok:∀c∈C,0<=c.1
theorem NR.len {q p}(s:NR m k q p hd x P C F):C.length+P.length+F.length=4:=by have:=s.perm.length_eq;grind
theorem NR.lt {q p}(s:NR m k q p hd x P C F){c}(h:c∈TS C++P++F):c<4:=by have:=s.perm.mem_iff.1 h;simp at this;omega
theorem NR.frame {q p}(s:NR m k q p hd x P C F)(h:∀i,jO k<=i->i<jO k+128->mB m' i=mB m i):NR m' k q p hd x P C F:=⟨s.ring,s.row.frame (Or.inl rfl) λi a b=>h i a J,s.dev,s.ZS,s.com.frame λi a b=>h i J J,s.pool,s.perm,s.cok⟩
theorem NR.held {q p}(s:NR m k q p hd x P C F)u:NR m k (q.1,q.2.1,q.2.2.1,u) p hd x P C F:=⟨s.ring,s.row,s.dev,s.ZS,s.com,s.pool,s.perm,s.cok⟩
theorem P9 {l:gw}(h:l.Perm [0,1,2,3]):l.Nodup:=h.nodup_iff.2 eR
theorem akM {b:Nat}(e:b<=130944)(a:∀c∈F,c<4)(d:F.Nodup):eD ((b:Int),384,4,F.map λc:Nat=>(c:Int))=true:=by unfold eD;grind[H3,aR,fP,List.pairwise_iff_getElem]
theorem NR.afG {q p}(b:k<=1)(s:NR m k q p hd x P C F):eD p=true:=by rw[s.pool];refine akM (by unfold jO;omega) (λc a=>s.lt (by simp[a])) ?_;have n:=P9 s.perm;exact(aX.1 n).2.1
theorem aey {s v}(hs:s.length=16)(a:v.length<=12):0<=Ca s v/\Ca s v<=4294967295:=by grind[QQ,Ca]
theorem abu {l d q k s D}(h:dV s=(D,O))(a:D.1=3)(b:¬D.2.2.1<((dE q.2.2.2.1.1).1.length:Int))(c:(ko l m d D.2.2.2.1 (dE q.2.2.2.1.1).1 O).2=O):iP l m d q k s=vF l (ko l m d D.2.2.2.1 (dE q.2.2.2.1.1).1 O).1 d q.2.1 (D.2.2.2.2.2,((dE q.2.2.2.1.1).1.length:Int),q.2.2.2.1.2.1,q.2.2.2.1.2.2,Ca k (xD (fI q.2.2.2.1.1))):=by grind[iP]
theorem ajI (u:fR m)(n:k<=1){q p c}(s:NR m k q p hd x (c::P) C F)(v:KI q=O)(l:q.2.2.2.2.1=O)b(o:b.length=16): ∃y:UX,y.1=(c:Int)/\(iP (bV 38) m 0 q b (iM (Cw k c))).2=(D6 (jO k+64) (x+C.length+1),O)/\fR (iP (bV 38) m 0 q b (iM (Cw k c))).1/\VJ (iP (bV 38) m 0 q b (iM (Cw k c))).1 (jO k+64) x (C++[y])/\∀i,i<4864->(i<jO k+64\/jO k+1792<=i)->mB (iP (bV 38) m 0 q b (iM (Cw k c))).1 i=mB m i:=by
 have j:c<4:=s.lt aD;have t:=s.len;simp only[bj]at t;have f:=pU (abS n j);have r:=(Ns _).1 v;have K:=r.held l;have E:=pV q.2.2.2.1.1;have H:jO k=1280+1792*k:=rfl;have pf:=Ir u (a:=jO k+128+384*c) (s:=(dE q.2.2.2.1.1).1) (w:=true) J J (λ_=>J);generalize z:(((c),((dE q.2.2.2.1.1).1.length),q.2.2.2.1.2.1,q.2.2.2.1.2.2,Ca b (xD (fI q.2.2.2.1.1))):UX)=y;have ok:Aa y=true:=by grind[Aa,aR,aey,aaf]
 have d:=s.com.frame (m':=(ko (bV 38) m 0 ((jO k+128+384*c)) (dE q.2.2.2.1.1).1 O).1) λi B D=>by grind
 have L:=aaU pf.2.1 J d J ok;have g:(Cw k c).2.2.2.1=((jO k+128+384*c:Nat)):=rfl;have A:(Cw k c).2.2.1=384:=rfl;have h:(Cw k c).2.2.2.2.2=(c):=rfl;have e:iP (bV 38) m 0 q b (iM (Cw k c))=vF (bV 38) (ko (bV 38) m 0 ((jO k+128+384*c:Nat)) (dE q.2.2.2.1.1).1 O).1 0 (D6 (jO k+64) (x+C.length)) y:=by rw[abu f.2 rfl J (by exact pf.1),g,h,s.dev,z]
 grind
structure abK (m:List Bytes) (k:Nat) (p:gL) (x:Nat) (C:List UX) (F:List Nat) (h:Bool) (f:List Bytes×dq) (n:Nat):Prop where
 mem:fR f.1
 st:∃hd P C',NR f.1 k f.2 p hd x P C' F/\C'.length=C.length+n
 hold:f.2.2.2.2.2.1=h
 out:∀i,i<4864->(i<jO k\/jO k+1792<=i)->mB f.1 i=mB m i
theorem Eh (f:fR m)(v:k<=1){q p}(s:NR m k q p hd x P C F)(j:KI q=O)a(d:a.length=16):∃n,n<=1/\abK m k p x C F G (iw (bV 38) m 0 q a) n:=by
 have K:jO k=1280+1792*k:=rfl;unfold iw;rw[j,d];cases h:q.2.2.2.2.1 with
 |false=>exact⟨0,J,f,⟨hd,P,C,s,rfl⟩,h,λ_ _ _=>rfl⟩
 |true=>
  simp only[ak,cq,show(((16:Nat):Int) !=16)=G from rfl,ab];cases P with
  |nil=>
   have t:=abz (m:=m) (b:=jO k) (hd:=hd) (Or.inl rfl);have e:bU (bV 38) m 0 q.1=([],q.1,G):=by rw[s.ring];exact t
   rw[e];exact⟨0,J,f,⟨hd,[],C,s.held _,rfl⟩,rfl,λ_ _ _=>rfl⟩
  |cons c P=>
   have t:=HM f (Or.inl rfl) J (s.row);have e:bU (bV 38) m 0 q.1=(iM (Cw k c),fZ (jO k) 4 (hd+1) P.length,O):=by rw[s.ring];have:=t.1;rw[bt]at this;exact this
   obtain⟨y,l,A,B,D,o⟩:=ajI f v s j h a d;rw[e,A];simp only[bR,ae];refine⟨1,J,B,⟨hd+1,P,C++[y],⟨rfl,?_,by simp;rfl,s.ZS,D,s.pool,?_,λz w=>?_⟩,aD⟩,rfl,λi u L=>o i u J⟩;exact t.2.frame (Or.inl rfl) λi E H=>o i J J;refine List.Perm.trans ?_ s.perm;have r:y.1.toNat=c:=by rw[l];simp
   simp only[TS,df,gC,List.map_nil,r,aH,jm,bF];exact List.Perm.refl _;rcases aB.1 w with g|g;exact s.cok z g;rw[aY.1 g,l];omega
theorem MA (j:fR m)(y:k<=1){q p}(s:NR m k q p hd x P C F)(R:N<=500000000000)(A:D5 N q)a(b:a.length=16)w c:∃n h,n<=2/\abK m k p x C F h (jD (bV 38) m 0 q a w c) n:=by have g:=(Ns _).2 (A.mono);unfold jD;rw[g,b];cases H:eU w with|false=>exact⟨0,q.2.2.2.2.1,J,j,⟨hd,P,C,s,rfl⟩,rfl,λ_ _ _=>rfl⟩|true=>cases c&&(q.2.2.2.2.1&&JG q.2.2.2.1 w)with|true=>exact⟨0,q.2.2.2.2.1,J,j,⟨hd,P,C,s.held _,rfl⟩,rfl,λ_ _ _=>rfl⟩|false=>obtain⟨n,S,d⟩:=Eh j y s g a b;obtain⟨e,u,t,M,K⟩:=d.st;have f:NR (iw (bV 38) m 0 q a).1 k (OW (iw (bV 38) m 0 q a).2 (mi w)) p e x u t F:=M.held _;cases c with|true=>exact⟨n,O,J,d.mem,⟨e,u,t,f,K⟩,rfl,d.out⟩|false=>have r:=Oo H;have o:=(Ns _).2 ((ack (H2 J A j.ok (bV 38) 0 a).2 r.1 r.2.1 r.2.2).mono);obtain⟨L,E,f3⟩:=Eh d.mem y f o a b;obtain⟨l,D,B,Q,T⟩:=f3.st;exact⟨n+L,G,J,f3.mem,⟨l,D,B,Q,J⟩,f3.hold,λi v z=>(f3.out i v z).trans (d.out i v z)⟩
theorem aj8 (d:k<=1)(a:eD (((jO k+128:Nat):Int),384,4,F.map λc:Nat=>(c:Int))=O){c:Nat}(b:c<4):mU (((jO k+128:Nat):Int),384,4,F.map λc:Nat=>(c:Int)) (c:Int)=((jO k+128+384*c:Nat):Int):=by unfold mU;rw[a,aR.2 ⟨J,gA⟩];grind
theorem Wr (a:k<=1){G:gw}(f:eD (((jO k+128:Nat):Int),384,4,G.map λc:Nat=>(c:Int))=O):∀(F:gw)(m:cL)(P:gw),fR m->uc m (jO k) 4 hd (P.map λc=>iM (Cw k c))->P.length+F.length<=4->(∀c∈F,c<4)->
 (nG (bV 38) 0 (((jO k+128:Nat):Int),384,4,G.map λc:Nat=>(c:Int)) (F.map λc:Nat=>(c:Int)) m (fZ (jO k) 4 hd P.length)).1=F.length/\
 (nG (bV 38) 0 (((jO k+128:Nat):Int),384,4,G.map λc:Nat=>(c:Int)) (F.map λc:Nat=>(c:Int)) m (fZ (jO k) 4 hd P.length)).2.2=fZ (jO k) 4 hd (P++F).length/\
 fR (nG (bV 38) 0 (((jO k+128:Nat):Int),384,4,G.map λc:Nat=>(c:Int)) (F.map λc:Nat=>(c:Int)) m (fZ (jO k) 4 hd P.length)).2.1/\
 uc (nG (bV 38) 0 (((jO k+128:Nat):Int),384,4,G.map λc:Nat=>(c:Int)) (F.map λc:Nat=>(c:Int)) m (fZ (jO k) 4 hd P.length)).2.1 (jO k) 4 hd ((P++F).map λc=>iM (Cw k c))/\
 ∀i,i<4864->(i<jO k\/jO k+64<=i)->mB (nG (bV 38) 0 (((jO k+128:Nat):Int),384,4,G.map λc:Nat=>(c:Int)) (F.map λc:Nat=>(c:Int)) m (fZ (jO k) 4 hd P.length)).2.1 i=mB m i
 |[],m,P,b,r,_,_=>by rw[bm];exact⟨rfl,rfl,b,r,λ_ _ _=>rfl⟩
 |c::F,m,P,b,r,h,hF=>by
  have o:jO k=1280+1792*k:=rfl;have e:=hF c aD;simp only[bj]at h;have g:iB (((jO k+128:Nat)),384,4,G.map λc:Nat=>(c)) (c)=iM (Cw k c):=by unfold iB;rw[aj8 a f e];rfl
  have d:=afM b (Or.inl rfl) J r (by rw[bt];omega) (pU (abS a e)).1;rw[bt]at d;rw[gC,nG,g,d.1];have n:P.length+1=(P++[c]).length:=aD;have l:uc (dL (bV 38) m 0 (fZ (jO k) 4 hd P.length) (iM (Cw k c))).1 (jO k) 4 hd ((P++[c]).map λc=>iM (Cw k c)):=by grind
  have p:=Wr a f F _ (P++[c]) d.2.1 l J λy j=>hF y (by simp[j]);grind
theorem Z4 (h:fR m)(f:k<=1){q p}(s:NR m k q p hd x P C F): fR (sB (bV 38) m 0 q.1 p).1/\NR (sB (bV 38) m 0 q.1 p).1 k ((sB (bV 38) m 0 q.1 p).2.1,q.2) (sB (bV 38) m 0 q.1 p).2.2.1 hd x (P++F) C []/\∀i,i<4864->(i<jO k\/jO k+64<=i)->mB (sB (bV 38) m 0 q.1 p).1 i=mB m i:=by
 have t:jO k=1280+1792*k:=rfl;have d:=s.afG f;have r:=s.len;rw[s.pool]at d;have a:=Wr f d F m P h s.row J λc g=>s.lt (by simp[g]);have j:=ti (b:=jO k) (hd:=hd) (n:=P.length) (Or.inl rfl) J J;have e:sB (bV 38) m 0 q.1 p=((nG (bV 38) 0 (((jO k+128)),384,4,F.map λc:Nat=>(c)) (F.map λc:Nat=>(c)) m (fZ (jO k) 4 hd P.length)).2.1,fZ (jO k) 4 hd (P++F).length,(((jO k+128):Int),384,4,[]),((F.length):Int)):=by unfold sB;rw[s.pool,s.ring,j.1,d];simp_all
 rw[e];refine⟨a.2.2.1,⟨rfl,a.2.2.2.1,s.dev,s.ZS,s.com.frame λi l o=>a.2.2.2.2 i J J,rfl,?_,s.cok⟩,a.2.2.2.2⟩;have:=s.perm;grind
theorem al2 {c:Nat}(b:eD (((jO k+128:Nat):Int),384,4,F.map λc:Nat=>(c:Int))=O)(a:eD (((jO k+128:Nat):Int),384,4,(F++[c]).map λc:Nat=>(c:Int))=O):(H4 (((jO k+128:Nat):Int),384,4,F.map λc:Nat=>(c:Int)) [(c:Int)]).1=(((jO k+128:Nat):Int),384,4,(F++[c]).map λc:Nat=>(c:Int)):=by simp_all[kU,H4,Ki]
theorem XH (i:fR m)(h:k<=1){s c}(r:NR m k s.2.1 s.2.2 hd x P (c::C) F):(mm (bV 38) m 0 s.2.1.2.2.1).2.2=O/\NR m k (xU (bV 38) m 0 s).2.1 (xU (bV 38) m 0 s).2.2 hd (x+1) P C (F++[c.1.toNat])/\(xU (bV 38) m 0 s).2.1.2.2.2=s.2.1.2.2.2:=by
 have o:jO k=1280+1792*k:=rfl;have e:=Td i J r.com;have d:mm (bV 38) m 0 s.2.1.2.2.1=(c,D6 (jO k+64) (x+1),O):=by rw[r.ZS];exact e.1
 have g:=Int.toNat_of_nonneg (r.cok c aD);have pm:(TS C++P++(F++[c.1.toNat])).Perm [0,1,2,3]:=by refine List.Perm.trans ?_ r.perm;grind
 have n:=P9 pm;have j:=r.afG h;rw[r.pool]at j;have l:=akM (b:=jO k+128) J (λy a=>by have:=pm.mem_iff.1 (aB.2 (Or.inr a));simp at this;omega) (aX.1 n).2.1;have f:(H4 s.2.2 [c.1]).1=(((jO k+128):Int),384,4,(F++[c.1.toNat]).map λc:Nat=>(c:Int)):=by rw[r.pool,<-g];grind[al2]
 refine⟨by rw[d],?_,rfl⟩;unfold xU;rw[d];refine⟨r.ring,r.row,?_,rfl,e.2,f,pm,λy a=>r.cok y (by simp[a])⟩;rw[show x+1+C.length=x+(c::C).length by simp;omega];exact r.dev
theorem Qb (b:fR m)(d:k<=1):∀(n:Nat)(s:Z Stream×dq×gL)(x:Nat)(C:Z UX)(F:gw),NR m k s.2.1 s.2.2 hd x P C F->
 (jq (bV 38) m 0 n s).1=min n C.length/\(jq (bV 38) m 0 n s).2.2.1.2.2.2=s.2.1.2.2.2/\∃a,NR m k (jq (bV 38) m 0 n s).2.2.1 (jq (bV 38) m 0 n s).2.2.2 hd (x+min n C.length) P (C.drop n) a
 |0,s,x,C,F,r=>⟨by rfl,rfl,F,by exact r⟩
 |n+1,s,x,[],F,r=>by
  have i:jO k=1280+1792*k:=rfl;have g:=Te b J r.com;have f:(mm (bV 38) m 0 s.2.1.2.2.1).2.2=false:=by rw[r.ZS,g]
  rw[jq,f];exact⟨aD,rfl,F,r⟩
 |n+1,s,x,c::C,F,r=>by have ps:=XH b d r;have e:=Qb b d n (xU (bV 38) m 0 s) (x+1) C _ ps.2.1;rw[jq,ps.1];obtain⟨a,h⟩:=e.2.2;refine⟨gA,e.2.1.trans ps.2.2,a,?_⟩;grind
theorem Oh (d:fR m)(c:k<=1){q p}(s:NR m k q p hd x P C F)(r:KI q=O)a{b:Nat}(n:b<=1000:=by omega): fR (iU (bV 38) m 0 q p a (b:Int)).1/\(∃h e,NR (iU (bV 38) m 0 q p a (b:Int)).1 k (iU (bV 38) m 0 q p a (b:Int)).2.1 (iU (bV 38) m 0 q p a (b:Int)).2.2.1 hd h e (C.drop b) [])/\(iU (bV 38) m 0 q p a (b:Int)).2.2.2.2=((min b C.length:Nat):Int)/\(iU (bV 38) m 0 q p a (b:Int)).2.1.2.2.2.2.1=q.2.2.2.2.1/\∀i,i<4864->(i<jO k\/jO k+64<=i)->mB (iU (bV 38) m 0 q p a (b:Int)).1 i=mB m i:=by have o:=s.afG c;have f:=Qb d c b (a,q,p) x C F s;obtain⟨t,u,j,g⟩:=f;have l:=Z4 d c g;grind[iU,aR,au]
theorem VW k:iL k=((jO k:Nat):Int):=by unfold iL jO;omega
theorem aor n j:(xu n).getD j 0=0:=by grind[xu,aZ]
theorem arn {a}(h:∀j,j<16->mB m (a+j)=0):(ql (xZ m a 16)).2.1=0:=by
 have e:xZ m a 16=List.replicate 16 0:=by unfold xZ;refine List.ext_getElem aD λj b c=>?_;grind
 rw[e];decide
theorem Tg (q:fR m)(p:k<=1)u:fR (ow (bV 38) m k).1/\(∃P,NR (ow (bV 38) m k).1 k ((ow (bV 38) m k).2.1,(iL k+64,4,0),(iL k+64,4,0),u) (ow (bV 38) m k).2.2.1 0 0 P [] [])/\∀i,i<4864->(i<jO k\/jO k+1792<=i)->mB (ow (bV 38) m k).1 i=mB m i:=by
 have t:jO k=1280+1792*k:=rfl;have pf:=Ir q (a:=jO k) (s:=xu 128) (w:=false) (by rw[Cn];omega) (by rw[Cn];omega) aD;rw[Cn]at pf;have r:=(Ru (a:=iL k+128) (b:=384) (n:=4) (by rw[VW];omega)).1;have h:(iO (iL k+128) 384 4).1=(((jO k+128:Nat):Int),384,4,[0,1,2,3].map λc:Nat=>(c:Int)):=by rw[r,VW];rfl
 have l:((iL k,4,0,0))=fZ (jO k) 4 0 0:=by rw[VW];rfl
 have g:((iL k+64,4,0))=D6 (jO k+64) 0:=by rw[VW];rfl
 have s:NR (ko (bV 38) m 0 ((jO k)) (xu 128) G).1 k (fZ (jO k) 4 0 0,D6 (jO k+64) 0,D6 (jO k+64) 0,u) (((jO k+128:Nat)),384,4,[0,1,2,3].map λc:Nat=>(c)) 0 0 [] [] [0,1,2,3]:=by refine⟨rfl,⟨aD,λj d=>by simp at d⟩,rfl,rfl,⟨aD,λj d=>by simp at d,λj _ d=>?_⟩,rfl,List.Perm.refl _,λc o=>by cases o⟩;rw[arn λi e=>?_];unfold phN;rw[zip];decide;rw[pf.2.2 _ J,zip];exact aor ..
 have f:=Z4 pf.2.1 p s;unfold ow;rw[h,l,g,VW];refine⟨f.1,⟨_,f.2.1⟩,λi e v=>?_⟩;rw[f.2.2 i e J,pf.2.2 i e,nQ]
def QI (A:Z UX->dq->Vector->Bool->Prop)m k q p v b:=
 ∃hd x P C F,NR m k q p hd x P C F/\v.2.1<=3/\v.2.2.2.2.1=b/\(b=G->C≠[]->1<=v.2.2.1)/\A C q v b
theorem QI.frame {A q p v b}(s:QI A m k q p v b)(h:∀i,jO k<=i->i<jO k+128->mB m' i=mB m i):QI A m' k q p v b:=by obtain⟨hd,x,P,C,F,s,t⟩:=s;exact⟨hd,x,P,C,F,s.frame h,t⟩
theorem QI.D7 {A B q p v b}(s:QI A m k q p v b)(h:∀C q v b,A C q v b->B C q v b):QI B m k q p v b:=by obtain⟨hd,x,P,C,F,s,t1,t2,t3,t4⟩:=s;exact⟨hd,x,P,C,F,s,t1,t2,t3,h _ _ _ _ t4⟩
def aoz A(h:Host)k:=∃q p v b,h.2.2.2.1[k]?=I q/\h.2.2.2.2.1[k]?=I p/\h.2.2.2.2.2.1[k]?=I v/\h.2.2.2.2.2.2.1[k]?=I b/\QI A h.1 k q p v b
structure Live (Q:Nat->List UX->dq->Vector->Bool->Prop) (h:Host):Prop where
 maps:h.2.1=bV 38
 mem:fR h.1
 tx:∃hd L,TxS h.1 h.2.2.1 hd L
 rx:∀k,k<h.2.2.2.1.length->aoz (Q k) h k
abbrev Qp:Nat->Z UX->dq->Vector->Bool->Prop:=λ_ _ _ _ _=>True
theorem Live.step {Q'}(f:Live Q h)(D:k<h.2.2.2.1.length)(u:h.2.2.2.1.length<=2)(y:fR h'.1)(d:h'.2.1=h.2.1)(g:h'.2.2.1=h.2.2.1)(l:h'.2.2.2.1.length=h.2.2.2.1.length)(z:∀j,j≠k->h'.2.2.2.1[j]?=h.2.2.2.1[j]?/\h'.2.2.2.2.1[j]?=h.2.2.2.2.1[j]?/\h'.2.2.2.2.2.1[j]?=h.2.2.2.2.2.1[j]?/\h'.2.2.2.2.2.2.1[j]?=h.2.2.2.2.2.2.1[j]?)(out:∀i,i<4864->(i<jO k\/jO k+1792<=i)->mB h'.1 i=mB h.1 i)(w:∀j,j≠k->∀C q v b,Q j C q v b->Q' j C q v b)(hF:aoz (Q' k) h' k):Live Q' h':=by have E:jO k=1280+1792*k:=rfl;obtain⟨hd,L,s⟩:=f.tx;refine⟨d.trans f.maps,y,⟨hd,L,by rw[g];exact s.frame λi B=>out i J J⟩,λj c=>?_⟩;by_cases a:j=k;subst a;exact hF;rw[l]at c;have x:jO j=1280+1792*j:=rfl;obtain⟨q,p,v,b,m,n,o,r,t⟩:=f.rx j c;have e:=z j a;exact⟨q,p,v,b,by rw[e.1];exact m,by rw[e.2.1];exact n,by rw[e.2.2.1];exact o,by rw[e.2.2.2];exact r,(t.D7 (w j a)).frame λi A u=>out i J J⟩
theorem Live.same (f:Live Q h)(t:fR h'.1)(d:h'.2.1=h.2.1)(a:h'.2.2.2.1=h.2.2.2.1)(e:h'.2.2.2.2.1=h.2.2.2.2.1)(g:h'.2.2.2.2.2.1=h.2.2.2.2.2.1)(j:h'.2.2.2.2.2.2.1=h.2.2.2.2.2.2.1)(u:∃hd L,TxS h'.1 h'.2.2.1 hd L)(out:∀i,i<4864->1280<=i->mB h'.1 i=mB h.1 i)(s:h.2.2.2.1.length<=2):Live Q h':=by refine⟨d.trans f.maps,t,u,λk c=>?_⟩;rw[a]at c;have x:jO k=1280+1792*k:=rfl;obtain⟨q,p,v,b,l,m,n,o,r⟩:=f.rx k c;exact⟨q,p,v,b,by rw[a];exact l,by rw[e];exact m,by rw[g];exact n,by rw[j];exact o,r.frame λi w s=>out i J J⟩
theorem GL v:(wz v).1=v.1/\(wz v).2.1=v.2.1/\(wz v).2.2.1=v.2.2.1/\(wz v).2.2.2.1=v.2.2.2.1/\(wz v).2.2.2.2.1=v.2.2.2.2.1:=by grind[wz]
theorem alO {v}(a:fO v=O):(evV v).2.1=v.2.1/\(evV v).2.2.2.2.1=v.2.2.2.2.1/\1<=(evV v).2.2.1:=by have w:=(FN v).1 a;have u:=ajP w.2.2.1;grind[GL,evV]
def evN:Nat->Vector->Vector
 |0,v=>v
 |n+1,v=>evV (evN n v)
theorem ao9 {v:Vector}(a:fO v=O):∀n,fO (evN n v)=O/\(evN n v).2.1=v.2.1/\(evN n v).2.2.2.2.1=v.2.2.2.2.1/\(1<=n->1<=(evN n v).2.2.1)
 |0=>⟨a,rfl,rfl,λh=>J⟩
 |n+1=>by have i:=ao9 a n;have s:=alO i.1;exact⟨ard i.1,s.1.trans i.2.1,s.2.1.trans i.2.2.1,λ_=>s.2.2⟩
theorem ahA {v:Vector}(a:h.2.2.2.2.2.1[k]?=I v):∀n,TV k n h=(h.1,h.2.1,h.2.2.1,h.2.2.2.1,h.2.2.2.2.1,h.2.2.2.2.2.1.set k (evN n v),h.2.2.2.2.2.2)
 |0=>by obtain⟨b,e⟩:=aA.1 a;show h=_;rw[evN,<-e,List.set_getElem_self]
 |n+1=>by obtain⟨b,e⟩:=aA.1 a;rw[TV,ahA a n];unfold evS;simp only[bn b,List.set_set];rfl
theorem afb (f:Live Q h)(M:h.2.2.2.1.length<=2)(B:k<h.2.2.2.1.length){q}(Z:h.2.2.2.1[k]?=I q){p}(U:h.2.2.2.2.1[k]?=I p){v}(D:h.2.2.2.2.2.1[k]?=I v){b}(R:h.2.2.2.2.2.2.1[k]?=I b)(s:NR h.1 k q p hd x P C F)(V:v.2.1<=3)(wm:v.2.2.2.2.1=b)(X:b=G->C≠[]->1<=v.2.2.1)(t:fO v=O){H n}(Y:n<=4)(c:abK h.1 k p x C F H g n): Live (λj C q v b=>(j=k->q.2.2.2.2.1=H)/\(j≠k->Q j C q v b)) (tY h k q.2.1.2.2 g):=by
 obtain⟨o,E,A,y,w⟩:=c.st;have S:=s.com.len;have T:=y.com.len;have L:q.2.1.2.2=(((x+C.length)%8:Nat):Int):=by rw[s.dev];rfl
 have a:g.2.2.1.2.2=(((x+A.length)%8:Nat):Int)/\g.2.2.1.2.1=4:=by rw[y.dev];exact⟨rfl,rfl⟩
 have K:((g.2.2.1.2.2-q.2.1.2.2)%(2*g.2.2.1.2.1)).toNat=n:=by rw[a.1,a.2,L,w];omega
 have r:(Jq h k g).2.2.2.2.2.1[k]?=I v:=D;have e:tY h k q.2.1.2.2 g=(g.1,h.2.1,h.2.2.1,h.2.2.2.1.set k g.2,h.2.2.2.2.1,h.2.2.2.2.2.1.set k (evN n v),h.2.2.2.2.2.2):=by unfold tY;rw[K,ahA r n];rfl
 have z:=ao9 t n;obtain⟨u,_⟩:=aA.1 D;rw[e];refine Live.step (Q:=Q) (Q':=λj C q v b=>(j=k->q.2.2.2.2.1=H)/\(j≠k->Q j C q v b)) f B M c.mem rfl rfl (aC ..) (λj d=>⟨aJ (cI d),rfl,aJ (cI d),rfl⟩) c.out (λj d C q v b N=>⟨λe=>absurd e d,λ_=>N⟩) ?_;refine⟨g.2,p,evN n v,b,bn B,U,bn u,R,o,x,E,A,F,y,by rw[z.2.1];exact V,by rw[z.2.2.1];exact wm,λl m=>?_,λ_=>c.hold,λe=>absurd rfl e⟩;rcases Nat.eq_zero_or_pos n with i|i;subst i;refine X l λJ=>m ?_;rw[J]at w;exact cB (by simpa using w);exact z.2.2.2 i
theorem Jj {n}(g:Good n h):h.2.2.2.2.2.2.2.2.1.2.2.1.length=16:=by have:=g.Mo;grind[fK,BG]
theorem tX {n}(g:Good n h):h.2.2.2.1.length<=2:=(mA g.lens).1
theorem Nb {n}(hn:n<=500000000000)(g:Good n h)(f:Live Q h)(i:k<h.2.2.2.1.length:=by omega):Live (λj C q v b=>(j=k->q.2.2.2.2.1=G)/\(j≠k->Q j C q v b)) (fu k h):=by
 have r:=tX g;obtain⟨q,p,v,b,a,m,d,o,hd,x,P,C,F,s,t,u,w,_⟩:=f.rx k i;have rx:=g.rx q (aF a);obtain⟨c,y,l⟩:=Eh f.mem J s (rx.rx J) h.2.2.2.2.2.2.2.2.1.2.2.1 (Jj g);have e:fu k h=tY h k q.2.1.2.2 (iw (bV 38) h.1 0 q h.2.2.2.2.2.2.2.2.1.2.2.1):=by unfold fu;rw[a,f.maps]
 rw[e];exact afb f r i a m d o s t u w (g.vec v (aF d)) J l
theorem Live.D7 {Q'}(f:Live Q h)(j:∀k,k<h.2.2.2.1.length->∀C q v b,Q k C q v b->Q' k C q v b):Live Q' h:=by refine⟨f.maps,f.mem,f.tx,λk a=>?_⟩;obtain⟨q,p,v,b,c,d,e,g,i⟩:=f.rx k a;exact⟨q,p,v,b,c,d,e,g,i.D7 (j k a)⟩
abbrev as4:Nat->Z UX->dq->Vector->Bool->Prop:=λ_ _ q _ _=>q.2.2.2.2.1=G
theorem Xk {n}(hn:n<=400000000000)(g:Good n h)(f:Live Q h):Live as4 (jR h):=by
 have r:=tX g;have a:∀k:Nat,k<=h.2.2.2.1.length->Good (n+320*(k:Int)) (eV fu k h)/\(eV fu k h).2.2.2.1.length=h.2.2.2.1.length/\Live (λj _ q _ _=>j<k->q.2.2.2.2.1=G) (eV fu k h):=by intro k;induction k with|zero=>intro _;exact⟨g.mono,rfl,f.D7 λk _ C q v b _ e=>J⟩|succ k o=>intro s;obtain⟨i1,i2,i3⟩:=o J;have p:=Nb J i1 i3 (k:=k);have i:=Ja J i1 k;have d:(fu k (eV fu k h)).2.2.2.1.length=(eV fu k h).2.2.2.1.length:=(ou k _).rx;refine⟨i.mono (by push_cast;omega),d.trans i2,p.D7 λj l C q v b c m=>?_⟩;grind
 unfold jR;rw[g.ok J,ae];obtain⟨i1,i2,i3⟩:=a h.2.2.2.1.length (bq _);exact i3.D7 λj l C q v b c=>c J
theorem acC {n}(hn:n<=400000000000)(g:Good n h)(f:Live Q h)y:Live Qp (gn h y):=by
 have l:=tX g;have loose:Live Qp h:=f.D7 λ_ _ _ _ _ _ _=>trivial;have Gy:∀a b c d,Live Qp (qV h a b c d):=λa b c d=>loose.same (h':=qV h a b c d) f.mem rfl rfl rfl rfl rfl f.tx (λ_ _ _=>rfl) l;unfold gn;rw[g.ok J];simp only[ak,ab];cases (cM y).2 !=0;case true=>exact Gy ..
 cases !kJ h.2.2.2.2.2.2.2.1 (cM y).1;case true=>exact Gy ..
 cases ji h.2.2.2.2.2.2.2.2.1 (h.2.2.2.1.length:Int) (cM y).1== -1;case true=>exact Gy ..
 simp only[ab];generalize (ji h.2.2.2.2.2.2.2.2.1 (h.2.2.2.1.length:Int) (cM y).1).toNat=k;rcases i:h.2.2.2.1[k]? with _|q;exact loose;simp only;obtain⟨m,_⟩:=aA.1 i;obtain⟨B,p,v,b,e,r,j,t,hd,x,P,C,F,s,u,w,z,_⟩:=loose.rx k m;rw[i]at e;have e:=bu e;subst e;obtain⟨c,H,A,o⟩:=MA f.mem J s J (g.rx q (aF i)) h.2.2.2.2.2.2.2.2.1.2.2.1 (Jj g) (cM y).1 h.2.2.2.2.2.2.2.2.2.2.1;rw[f.maps];have:=afb (Gy h.2.2.2.2.2.2.2.2.2.2.2.2.2.2.2.1 h.2.2.2.2.2.2.2.2.2.2.2.2.2.2.2.2.1 h.2.2.2.2.2.2.2.2.2.2.2.2.2.2.2.2.2.1 (V (h.2.2.2.2.2.2.2.2.2.2.2.2.2.2.2.2.2.2+1))) l m i r j t s u w z (g.vec v (aF j)) J o;exact this.D7 λ_ _ _ _ _ _ _=>trivial
theorem amN {n}(g:Good n h)(f:Live Q h)p c z:Live Q (pP h p c z).1:=by obtain⟨hd,L,s⟩:=f.tx;obtain⟨a,⟨d,b⟩,e⟩:=abb f.mem s g.tx p c z;unfold pP;cases eJ h with|false=>exact f|true=>rw[f.maps];exact f.same a f.maps.symm rfl rfl rfl rfl ⟨hd,d,b⟩ e (tX g)
theorem Za {n}(hn:n<=1000000000000)(g:Good n h)(f:Live Q h):Live Q (cS h)/\(cS h).2.2.1.2.2.1=[]:=by
 obtain⟨hd,L,s⟩:=f.tx;obtain⟨a,d,b⟩:=Pj g hn f.maps f.mem s;refine⟨?_,a⟩;have c:(cS h).1=h.1:=by unfold cS;rw[g.ok hn];rfl
 have e:(cS h).2.1=h.2.1:=by unfold cS;rw[g.ok hn];rfl
 have j:(cS h).2.2.2.1=h.2.2.2.1:=by unfold cS;rw[g.ok hn];rfl
 have k:(cS h).2.2.2.2.1=h.2.2.2.2.1:=by unfold cS;rw[g.ok hn];rfl
 have l:(cS h).2.2.2.2.2.1=h.2.2.2.2.2.1:=by unfold cS;rw[g.ok hn];rfl
 have m:(cS h).2.2.2.2.2.2.1=h.2.2.2.2.2.2.1:=by unfold cS;rw[g.ok hn];rfl
 exact f.same (by rw[c];exact f.mem) e j k l m ⟨d,[],by rw[c];exact b⟩ (λi _ _=>by rw[c]) (tX g)
theorem UQ {v}(b:fO v=O):(DY v).1=v.1/\(DY v).2.1=v.2.1/\(DY v).2.2.1=v.2.2.1/\(DY v).2.2.2.2.1=v.2.2.2.2.1/\(1<=v.2.2.1->v.2.2.2.2.1=G->(DY v).2.2.2.2.2=O\/v.2.2.2.1+1<=(DY v).2.2.2.1/\(DY v).2.2.2.1<v.2.1):=by
 have w:=(FN v).1 b;have a:=Yy b;unfold DY at a⊢;rw[b]at a⊢;simp only[ae]at a⊢;by_cases h:v.2.2.1>0;rw[ax h]at a⊢;simp only[ae]at a⊢;have c:=GL (v.1,v.2.1,v.2.2.1,upM v.2.2.2.1,v.2.2.2.2);refine⟨c.1,c.2.1,c.2.2.1,c.2.2.2.2,λ_ d=>?_⟩;have e:upM v.2.2.2.1=v.2.2.2.1+1\/upM v.2.2.2.1=1000000:=by unfold upM;rw[aj J J];split<;>omega
 have t3:(wz (v.1,v.2.1,v.2.2.1,upM v.2.2.2.1,v.2.2.2.2)).2.2.2.1=upM v.2.2.2.1:=c.2.2.2.1;cases hd:PG (v.1,v.2.1,v.2.2.1,upM v.2.2.2.1,v.2.2.2.2)with
 |true=>left;unfold wz;rw[hd,d];rfl
 |false=>
  right;have g:¬(1<=v.2.2.1/\(v.1<=v.2.2.1\/v.2.1<=upM v.2.2.2.1)):=by rw[<-Vt (v.1,v.2.1,v.2.2.1,upM v.2.2.2.1,v.2.2.2.2),hd];simp
  rw[t3];omega
 rw[aw h]at a⊢;simp only[ab]at a⊢;have c:=GL v;exact⟨c.1,c.2.1,c.2.2.1,c.2.2.2.2,λf=>J⟩
theorem aiA {n}(g:Good n h){B:Nat->Z UX->dq->Vector->Bool->Prop}(f:Live Q h)(i:k<h.2.2.2.1.length)(u:∀C q v b,fO v=O->v.2.1<=3->v.2.2.2.2.1=b->(b=G->C≠[]->1<=v.2.2.1)->Q k C q v b->B k C q (DY v) b):Live (λj C q v b=>(j=k->B k C q v b)/\(j≠k->Q j C q v b)) (kQ k h):=by
 obtain⟨q,p,v,b,m,o,a,r,hd,x,P,C,F,s,w,y,z,A⟩:=f.rx k i;have l:=g.vec v (aF a);have H:=UQ l;obtain⟨d,_⟩:=aA.1 a;have e:kQ k h=(h.1,h.2.1,h.2.2.1,h.2.2.2.1,h.2.2.2.2.1,h.2.2.2.2.2.1.set k (DY v),h.2.2.2.2.2.2):=by unfold kQ;rw[a]
 rw[e];refine Live.step (Q:=Q) (Q':=λj C q v b=>(j=k->B k C q v b)/\(j≠k->Q j C q v b)) f i (tX g) f.mem rfl rfl rfl (λj c=>⟨rfl,rfl,aJ (cI c),rfl⟩) (λ_ _ _=>rfl) (λj c C q v b t=>⟨λe=>absurd e c,λ_=>t⟩) ?_;exact⟨q,p,DY v,b,m,o,bn d,r,hd,x,P,C,F,s,J,gA,λD E=>gA,λ_=>u C q v b l w y z A,λe=>absurd rfl e⟩
theorem ahP {n}(g:Good n h)k:Good n (kQ k h):=by unfold kQ;cases a:h.2.2.2.2.2.1[k]? with|none=>exact g|some v=>exact⟨g.mem,g.maps,g.tx,g.oB,by have:=g.lens;grind[ru],g.Mo,g.rx,g.pool,yq g.vec (Yy (g.vec v (aF a))),g.Gy⟩
theorem aaA {n}(hn:n<=1000000000000)(g:Good n h){B}(f:Live Q h)(r:∀k C q v b,fO v=O->v.2.1<=3->v.2.2.2.2.1=b->(b=G->C≠[]->1<=v.2.2.1)->Q k C q v b->B k C q (DY v) b):Live B (kX h):=by
 have t:=mA g.lens;have d:∀k:Nat,k<=h.2.2.2.1.length->Good n (eV kQ k h)/\(eV kQ k h).2.2.2.1.length=h.2.2.2.1.length/\Live (λj C q v b=>(j<k->B j C q v b)/\(¬j<k->Q j C q v b)) (eV kQ k h):=by intro k;induction k with|zero=>intro _;exact⟨g,rfl,f.D7 λk _ C q v b a=>⟨λe=>J,λ_=>a⟩⟩|succ k u=>intro x;obtain⟨i1,i2,i3⟩:=u J;have w:=aiA (B:=B) i1 i3 (k:=k) J (λC q v b l m o p a=>r k C q v b l m o p (a.2 J));refine⟨ahP i1 k,((yn k _).rx).trans i2,w.D7 λj s C q v b a=>⟨λc=>?_,λc=>?_⟩⟩;by_cases i:j=k;subst i;exact a.1 rfl;exact(a.2 i).1 J;exact(a.2 J).2 J
 unfold kX;rw[g.ok hn,ae,t.2.2.1];obtain⟨i1,i2,i3⟩:=d h.2.2.2.1.length (bq _);exact i3.D7 λj s C q v b a=>a.1 J
theorem agH {v}(a:fO v=O):(rA v).1.2.1=v.2.1/\(rA v).2=v.2.2.2.2.2/\(v.2.2.2.2.2=O->(rA v).1.2.2.2.2.1=O)/\(v.2.2.2.2.2=G->(rA v).1=v):=by grind[rA]
theorem Zx {v}(a:fO v=O):(D4 v).2.1=v.2.1/\(D4 v).2.2.2.2.1=false:=by grind[D4,GL]
theorem Nc {n}(hn:n<=1000000000000)t(g:Good n h){B:Nat->Z UX->dq->Vector->Bool->Prop}(f:Live Q h)(hk:k<h.2.2.2.1.length){c}(hc:1<=c/\c<=1000)(Y:∀C q v b L N r,fO v=O->v.2.1<=3->v.2.2.2.2.1=b->(b=G->C≠[]->1<=v.2.2.1)->L.2.2.2.2.1=q.2.2.2.2.1->Q k C q v b-> ((b=G/\v.2.2.2.2.2=G->r=G->N=v->B k C L N r)/\(b=O\/v.2.2.2.2.2=O->C.length<c->r=G->B k [] L N r)/\(b=O\/v.2.2.2.2.2=O->¬C.length<c->r=O->B k (C.drop c) L N r))):Live (λj C q v b=>(j=k->B k C q v b)/\(j≠k->Q j C q v b)) (uK (c:Int) k (t,h)).2:=by
 have YJ:jO k=1280+1792*k:=rfl;have h2:=tX g;obtain⟨q,p,v,b,K,U,V,g4,hd,x,P,C,F,s,w,E,S,w4⟩:=f.rx k hk;have D:=g.vec v (aF V);have o:=agH D;have vt:=agN D;have rq:=(g.rx q (aF K)).rx hn;obtain⟨m1,⟨x',P',M⟩,m3,m4,m5⟩:=Oh f.mem J s rq h.2.2.2.2.2.2.2.2.2.1 (b:=c);obtain⟨A,_⟩:=aA.1 K;obtain⟨z,_⟩:=aA.1 U;obtain⟨m,_⟩:=aA.1 V;obtain⟨l,_⟩:=aA.1 g4;unfold uK;simp only[K,U,V,g4,f.maps];generalize hR:iU (bV 38) h.1 0 q p h.2.2.2.2.2.2.2.2.2.1 (c:Int)=R at m1 M m3 m4 m5;cases a:b||(rA v).2 with
 |false=>
  simp only[dj]at a;have u:v.2.2.2.2.2=false:=by rw[<-o.2.1];exact a.2
  have H:=o.2.2.2 u;simp only[ab];refine Live.step (Q:=Q) (Q':=λj C q v b=>(j=k->B k C q v b)/\(j≠k->Q j C q v b)) f hk h2 f.mem f.maps.symm rfl rfl (λj d=>⟨rfl,rfl,aJ (cI d),aJ (cI d)⟩) (λ_ _ _=>rfl) (λj d C q v b X=>⟨λe=>absurd e d,λ_=>X⟩) ?_;refine⟨q,p,(rA v).1,G,K,U,bn m,bn l,hd,x,P,C,F,s,by rw[H];exact w,by rw[H,E];exact a.1,λ_ e2=>by rw[H];exact S a.1 e2,λ_=>?_,λe=>absurd rfl e⟩;exact(Y C q v b q (rA v).1 G D w E S rfl w4).1 ⟨a.1,u⟩ rfl H
 |true=>
  simp only[dW]at a;have a:b=O\/v.2.2.2.2.2=true:=by rw[<-o.2.1];exact a
  have msk:(rA v).1.2.2.2.2.1=true:=by cases u:v.2.2.2.2.2 with|true=>exact o.2.2.1 u|false=>rw[o.2.2.2 u,E];rcases a with e|e;exact e;rw[u]at e;cases e
  simp only[ae,m3];have um:=Zx vt;refine Live.step (Q:=Q) (Q':=λj C q v b=>(j=k->B k C q v b)/\(j≠k->Q j C q v b)) f hk h2 m1 f.maps.symm rfl (aC ..) (λj d=>⟨aJ (cI d),aJ (cI d),aJ (cI d),aJ (cI d)⟩) (λi hi ho=>m5 i hi J) (λj d C q v b X=>⟨λe=>absurd e d,λ_=>X⟩) ?_;by_cases y:C.length<c;have ed:C.drop c=[]:=dz J;rw[ed]at M;have T:decide (((min c C.length:Nat):Int)<(c:Int))=true:=iG;rw[T];refine⟨R.2.1,R.2.2.1,D4 (rA v).1,G,bn A,bn z,bn m,bn l,hd,x',P',[],[],M,by rw[um.1,o.1];exact w,um.2,λ_ e=>absurd rfl e,λ_=>?_,λe=>absurd rfl e⟩;exact(Y C q v b R.2.1 _ G D w E S m4 w4).2.1 a y rfl;have T:decide (((min c C.length:Nat):Int)<(c:Int))=false:=ga;rw[T];refine⟨R.2.1,R.2.2.1,(rA v).1,O,bn A,bn z,bn m,bn l,hd,x',P',C.drop c,[],M,by rw[o.1];exact w,msk,(λe=>by cases e),λ_=>?_,λe=>absurd rfl e⟩;exact(Y C q v b R.2.1 _ O D w E S m4 w4).2.2 a y rfl
theorem Rf {n}(hn:n<=1000000000000)(g:Good n h){B}(f:Live Q h){c}(z:1<=c/\c<=1000)(y:∀k C q v b i l d,fO v=O->v.2.1<=3->v.2.2.2.2.1=b->(b=G->C≠[]->1<=v.2.2.1)->i.2.2.2.2.1=q.2.2.2.2.1->Q k C q v b-> ((b=G/\v.2.2.2.2.2=G->d=G->l=v->B k C i l d)/\(b=O\/v.2.2.2.2.2=O->C.length<c->d=G->B k [] i l d)/\(b=O\/v.2.2.2.2.2=O->¬C.length<c->d=O->B k (C.drop c) i l d))):Live B (gq h (c:Int)).1:=by
 have o:∀k:Nat,k<=h.2.2.2.1.length->Good n (ir (c:Int) k h).2/\(ir (c:Int) k h).2.2.2.2.1.length=h.2.2.2.1.length/\Live (λj C q v b=>(j<k->B j C q v b)/\(¬j<k->Q j C q v b)) (ir (c:Int) k h).2:=by intro k;induction k with|zero=>intro _;exact⟨g,rfl,f.D7 λk _ C q v b a=>⟨λe=>J,λ_=>a⟩⟩|succ k A=>intro E;obtain⟨i1,i2,i3⟩:=A J;have D:=Nc (B:=B) hn (ir (c:Int) k h).1 i1 i3 (k:=k) J z (λC q v b i l d s t u w x a=>y k C q v b i l d s t u w x (a.2 J));refine⟨Jb (c:Int) k i1,((Jt (c:Int) k _).rx).trans i2,D.D7 λj r C q v b a=>⟨λm=>?_,λm=>?_⟩⟩;by_cases p:j=k;subst p;exact a.1 rfl;exact(a.2 p).1 J;exact(a.2 J).2 J
 unfold gq;rw[g.ok hn,aR.2 ⟨J,J⟩];obtain⟨i1,i2,i3⟩:=o h.2.2.2.1.length (bq _);exact i3.D7 λj r C q v b a=>a.1 (by show j<_;rw[<-i2];exact r)
theorem asD l m d q k s:(iP l m d q k s).1.length=m.length:=by unfold iP;cases !(dV s).2||(((dV s).1.1 !=3)||decide ((dV s).1.2.2.1<((dE q.2.2.2.1.1).1.length:Int)));all_goals grind[vF,pe]
theorem arM l m d q k:(iw l m d q k).1.length=m.length:=by unfold iw;cases !KI q||(!q.2.2.2.2.1||((k.length:Int) !=16));all_goals grind[asD]
theorem adJ l m d q k p c:(jD l m d q k p c).1.length=m.length:=by unfold jD;cases !KI q||(!eU p||((k.length:Int) !=16));all_goals grind[arM]
abbrev am5:Nat->Z UX->dq->Vector->Bool->Prop:=λ_ C q _ b=>C=[]/\b=G/\q.2.2.2.2.1=G/\cQ q.1=4
theorem akK (d:fR m)(c:k<=1)u(g:u.2.1=G){v}(a:v.2.1<=3)(b:v.2.2.2.2.1=G):QI (am5 k) (ow (bV 38) m k).1 k ((ow (bV 38) m k).2.1,(iL k+64,4,0),(iL k+64,4,0),u) (ow (bV 38) m k).2.2.1 v false:=by
 obtain⟨_,⟨P,s⟩,_⟩:=Tg d c u;have h:P.length=4:=by have:=s.perm.length_eq;simpa[TS]using this
 have f:=s.ring;simp only at f;exact⟨0,0,P,[],[],s,a,b,λ_ e=>absurd rfl e,rfl,rfl,g,by grind[ti,jO]⟩
structure I0 (k:Nat) (h:Host):Prop where
 maps:h.2.1=bV 38
 mem:fR h.1
 tx:∃hd L,TxS h.1 h.2.2.1 hd L
 lens:h.2.2.2.1.length<=2/\h.2.2.2.2.1.length=h.2.2.2.1.length/\h.2.2.2.2.2.1.length=h.2.2.2.1.length/\h.2.2.2.2.2.2.1.length=h.2.2.2.1.length
 vec:∀v∈h.2.2.2.2.2.1,v.2.1<=3
 rx:∀j,j<k->aoz (am5 j) h j
theorem aja (r:I0 k h)(l:k<h.2.2.2.1.length):I0 (k+1) (pT k h):=by have S:jO k=1280+1792*k:=rfl;obtain⟨A,B,C,D⟩:=r.lens;have d:k<h.2.2.2.2.2.1.length:=J;have z:k<h.2.2.2.2.1.length:=J;have x:k<h.2.2.2.2.2.2.1.length:=J;have b:k<=1:=J;unfold pT;simp only[ah l,ah d];unfold Im;rw[r.maps];obtain⟨m,⟨P,E⟩,g⟩:=Tg r.mem b ((Js k).2.2.2.1,(Js k).2.2.2.2.1,HU h.2.2.2.1[k]);have c:=r.vec _ (az d);have q:=akK r.mem b ((Js k).2.2.2.1,(Js k).2.2.2.2.1,HU h.2.2.2.1[k]) rfl (v:=(h.2.2.2.2.2.1[k].1,h.2.2.2.2.2.1[k].2.1,0,0,G,G)) c rfl;generalize ow (bV 38) h.1 k=O at m E g q;obtain⟨hd,L,s⟩:=r.tx;refine⟨rfl,m,⟨hd,L,s.frame λi Q=>g i J J⟩,⟨by show(List.set _ _ _).length<=2;rw[aC];exact A,by show(List.set _ _ _).length=(List.set _ _ _).length;rw[aC,aC];exact B,by show(List.set _ _ _).length=(List.set _ _ _).length;rw[aC,aC];exact C,by show(List.set _ _ _).length=(List.set _ _ _).length;rw[aC,aC];exact D⟩,λv f=>?_,λj R=>?_⟩;rcases cG f with e|e;exact r.vec v e;rw[e];exact c;by_cases a:j=k;subst a;exact⟨_,_,_,_,bn l,bn z,bn d,bn x,q⟩;have y:jO j=1280+1792*j:=rfl;obtain⟨H,F,K,n,o,p,t,u,w⟩:=r.rx j J;refine⟨H,F,K,n,?_,?_,?_,?_,w.frame λi M N=>g i J J⟩;show(List.set _ _ _)[j]?=_;rw[aJ (cI a)];exact o;show(List.set _ _ _)[j]?=_;rw[aJ (cI a)];exact p;show(List.set _ _ _)[j]?=_;rw[aJ (cI a)];exact t;show(List.set _ _ _)[j]?=_;rw[aJ (cI a)];exact u
theorem aaY (r:I0 0 h):∀k,k<=h.2.2.2.1.length->I0 k (fW h k)
 |0,_=>r
 |k+1,a=>aja (aaY r k J) (by have e:=(rb h k).rx;grind[fW])
theorem I0.new (r:I0 h.2.2.2.1.length h):Live am5 h:=⟨r.maps,r.mem,r.tx,λk a=>r.rx k a⟩
theorem I0.live (r:I0 h.2.2.2.1.length h):Live Qp h:=r.new.D7 λ_ _ _ _ _ _ _=>trivial
theorem Nj (h:Host):∀k,IZ h (na h k)/\(na h k).1.length=h.1.length
 |0=>⟨IZ.refl h,rfl⟩
 |k+1=>by have i:=Nj h k;refine⟨i.1.trans (Ur ..),Eq.trans ?_ i.2⟩;show(uI (na h k) k 1000).2.1.length=_;grind[uI,akL]
theorem JT (h:Host):∀k,asU (gE h) (returned h k)
 |0=>⟨rfl⟩
 |k+1=>by have i:=JT h k;have e:returned h (k+1)=Tq h.2.2.1.2.2.1 k (returned h k):=rfl;rw[e];unfold Tq;cases h.2.2.1.2.2.1[k]? with|none=>exact i|some x=>refine⟨?_⟩;show akS _ _=_;have e:=i.e;generalize returned h k=r at e⊢;rw[e];rfl
theorem anA {n}(hn:n<=1000000000000)(g:Good n h)(f:Live Q h):Live am5 (kI h):=by
 have L:=mA g.lens;have o:∀v∈h.2.2.2.2.2.1,v.2.1<=3:=by intro v o;obtain⟨k,z⟩:=eM o;obtain⟨YI,_⟩:=aA.1 z;obtain⟨q,p,v',b,Z,g2,t,g4,hd,x,P,C,F,s,T,w2,w3,w4⟩:=f.rx k J;rw[z]at t;rw[bu t];exact T
 have u:=Lb g h.2.2.2.1.length;obtain⟨i,A⟩:=Nj h h.2.2.2.1.length;have E:gE h=na h h.2.2.2.1.length:=rfl;have l:=(JT h h.2.2.1.2.2.1.length).e;rw[<-E]at u i A;have d:gM h=Sh (returned h h.2.2.1.2.2.1.length):=rfl;generalize returned h h.2.2.1.2.2.1.length=R at l d;have U:(gM h).1=(gE h).1:=by rw[d,l];rfl
 have V:(gM h).2.1=(gE h).2.1:=by rw[d,l];rfl
 have B:(gM h).2.2.2.1=(gE h).2.2.2.1:=by rw[d,l];rfl
 have X:(gM h).2.2.2.2.1=(gE h).2.2.2.2.1:=by rw[d,l];rfl
 have D:(gM h).2.2.2.2.2.1=(gE h).2.2.2.2.2.1:=by rw[d,l];rfl
 have Y:(gM h).2.2.2.2.2.2.1=(gE h).2.2.2.2.2.2.1:=by rw[d,l];rfl
 have r:∃y,(gM h).2.2.1=(D0.1,D0.2.1,D0.2.2.1,y):=⟨_,by rw[d];rfl⟩
 obtain⟨y,r⟩:=r;have M:=(Ru (a:=256) (b:=128) (n:=8)).1;have N:I0 0 (gM h):=by refine⟨by rw[V,i.maps];exact f.maps,by rw[U];exact fR.of u.mem (by rw[A];exact f.mem.ln),⟨0,[],?_⟩,?_,λv m=>?_,λj w=>J⟩;rw[r];refine⟨rfl,⟨aD,λj w=>by simp at w⟩,rfl,(λc K=>by cases K),?_⟩;show(iO 256 128 8).1.1=256/\(iO 256 128 8).1.2.1=128/\(iO 256 128 8).1.2.2.1=8;rw[M];exact⟨rfl,rfl,rfl⟩;rw[B,X,D,Y,i.rx,i.pl,i.vec,i.pol];exact L;rw[D,i.vec]at m;exact o v m
 unfold kI;rw[g.ok hn,ae];have H:h.2.2.2.1.length=(gM h).2.2.2.1.length:=by rw[B,i.rx]
 have S:=aaY N h.2.2.2.1.length J;refine I0.new ?_;rw[(rb (gM h) h.2.2.2.1.length).rx,<-H];exact S
theorem Y9 {n}(hn:n<=1000000000000)(g:Good n h)(f:Live Q h)b:Live Qp (gq h b).1:=by
 cases a:dF b 1 1000 with
 |true=>have a:=aR.1 a;obtain⟨c,rfl⟩:=ar (J:0<=b);grind[Rf]
 |false=>unfold gq;rw[a,ij];exact f.D7 λ_ _ _ _ _ _ _=>trivial
abbrev afQ (r:Nat):Nat->Z UX->dq->Vector->Bool->Prop:=λ_ C q v b=>q.2.2.2.2.1=G/\(C≠[]->C.length+(bif b then 0 else(v.2.1-v.2.2.2.1).toNat)<=r)
abbrev auZ (r:Nat):Nat->Z UX->dq->Vector->Bool->Prop:=λ_ C q v b=>q.2.2.2.2.1=G/\(C≠[]->C.length<=r/\(b=G->v.2.2.2.2.2=G->C.length+(v.2.1-v.2.2.2.1).toNat+1<=r))
theorem amM {n}(g:Good n h)(f:Live as4 h):Live (afQ 7) h:=by refine⟨f.maps,f.mem,f.tx,λk i=>?_⟩;obtain⟨q,p,v,b,c,d,a,e,hd,x,P,C,F,s,j,l,m,o⟩:=f.rx k i;have t:=(FN v).1 (g.vec v (aF a));have r:=s.com.len;refine⟨q,p,v,b,c,d,a,e,hd,x,P,C,F,s,j,l,m,o,λ_=>?_⟩;grind
theorem aiz {n}(hn:n<=1000000000000)(g:Good n h){r c:Nat}(A:1<=c/\c<=1000)(f:Live (afQ r) h):Live (afQ (r-1)) (gq (kX h) (c:Int)).1:=by
 have t:Live (auZ r) (kX h):=by
  refine aaA hn g f λk C q v b u B y z a=>⟨a.1,λi=>?_⟩
  have w:=UQ u;have l:=a.2 i;cases b with|true=>have l:C.length+0<=r:=l;exact⟨J,λe=>by cases e⟩|false=>have l:C.length+(v.2.1-v.2.2.2.1).toNat<=r:=l;refine⟨J,λ_ e=>?_⟩;rcases w.2.2.2.2 (z rfl i) y with m|m;rw[e]at m;cases m;rw[w.2.1];omega
 refine Rf hn (Kj g) t A λk C q v b F x D u B y z o a=>⟨λs d p=>⟨o.trans a.1,λi=>?_⟩,λ_ _ _=>⟨o.trans a.1,λe=>absurd rfl e⟩,λ_ E d=>⟨o.trans a.1,λi=>?_⟩⟩
 have:=(a.2 i).2 s.1 s.2;subst d p;show C.length+(x.2.1-x.2.2.2.1).toNat<=r-1;omega;subst d;have j:C≠[]:=λe=>i (by rw[e];simp);have:=(a.2 j).1;have:0<C.length:=List.length_pos_iff.2 j;show(C.drop c).length+0<=r-1;rw[bA];omega
theorem B9 (b:Int){n:Int}(g:Good n h):∀k,Good n (BJ b k h)
 |0=>g
 |k+1=>QO (Kj (B9 b g k)) b
theorem Ug {n:Int}(hn:n<=1000000000000)(g:Good n h){r c:Nat}(a:1<=c/\c<=1000)(f:Live (afQ r) h):∀k,Live (afQ (r-k)) (BJ (c:Int) k h)
 |0=>f
 |k+1=>by have i:=Ug hn g a f k;have:=aiz hn (B9 (c:Int) g k) a i;rw[(J:r-(k+1)=r-k-1)];exact this
theorem asI h:(kX h).2.2.1=h.2.2.1:=by unfold kX;cases eJ h with|false=>rfl|true=>exact(mf yn h _).tx
theorem ajf h b:(gq h b).1.2.2.1=h.2.2.1:=by unfold gq;cases eJ h&&dF b 1 1000 with|false=>rfl|true=>exact(yW b h _).tx
theorem aph h:(jR h).2.2.1=h.2.2.1:=by unfold jR;cases eJ h with|false=>rfl|true=>exact(mf ou h _).tx
theorem asJ:TxS m D0 0 []:=by have f:=(Ru (a:=256) (b:=128) (n:=8)).1;refine⟨rfl,⟨aD,λj e=>by simp at e⟩,rfl,(λc d=>by cases d),?_⟩;show(iO 256 128 8).1.1=256/\(iO 256 128 8).1.2.1=128/\(iO 256 128 8).1.2.2.1=8;grind
theorem amL f s c:I0 0 (WW f s c 38):=by refine⟨rfl,⟨λx a=>?_,?_⟩,⟨0,[],asJ⟩,⟨cg _,rfl,rfl,rfl⟩,(λv b=>by cases b),λj d=>J⟩;have a:x∈List.replicate 38 (xu 128):=a;rw[(List.mem_replicate.1 a).2];exact Cn 128;show(List.replicate 38 (xu 128)).length=38;simp
theorem akj {l}(b:l.length=k)(a:j<k)(x y:α):((l++[x]).set k y)[j]?=l[j]?:=by grind
theorem aen {l}(a:l.length=k)(x y:α):((l++[x]).set k y)[k]?=I y:=bn (by simp;omega)
theorem akk {l}(b:l.length=k)(a:j<k)(x:α):(l++[x])[j]?=l[j]?:=bE J
theorem acg {l}(a:l.length=k)(x:α):(l++[x])[k]?=I x:=by rw[<-a];simp
theorem ane (r:I0 h.2.2.2.1.length h)(g:h.2.2.2.1.length<=1){v}(a:v.2.1<=3/\v.2.2.2.2.1=G):I0 (h.2.2.2.1.length+1) (KA (h.1,h.2.1,h.2.2.1,h.2.2.2.1++[((0,0,0,0),(0,0,0),(0,0,0),((0,0,0,0,0,0,0,0,0,0,0,0,0,0,0,([]:Bytes)),0,0),G,0)],h.2.2.2.2.1++[(0,0,0,([]:dw))],h.2.2.2.2.2.1++[v],h.2.2.2.2.2.2.1++[G],h.2.2.2.2.2.2.2) h.2.2.2.1.length)/\(KA (h.1,h.2.1,h.2.2.1,h.2.2.2.1++[((0,0,0,0),(0,0,0),(0,0,0),((0,0,0,0,0,0,0,0,0,0,0,0,0,0,0,([]:Bytes)),0,0),G,0)],h.2.2.2.2.1++[(0,0,0,([]:dw))],h.2.2.2.2.2.1++[v],h.2.2.2.2.2.2.1++[G],h.2.2.2.2.2.2.2) h.2.2.2.1.length).2.2.2.1.length=h.2.2.2.1.length+1:=by obtain⟨R,l,m,n⟩:=r.lens;generalize c:h.2.2.2.1.length=k at*;have d:=c;have Q:jO k=1280+1792*k:=rfl;unfold KA;simp only[acg d,r.maps];obtain⟨o,⟨P,B⟩,f⟩:=Tg r.mem g (((0,0,0,0,0,0,0,0,0,0,0,0,0,0,0,([]:Bytes)),0,0),G,0);have q:=akK r.mem g (((0,0,0,0,0,0,0,0,0,0,0,0,0,0,0,([]:Bytes)),0,0),G,0) rfl (v:=v) a.1 a.2;generalize ow (bV 38) h.1 k=O at o B f q;obtain⟨hd,L,E⟩:=r.tx;refine⟨⟨rfl,o,⟨hd,L,E.frame λi M=>f i J J⟩,?_,λw A=>?_,λj N=>?_⟩,?_⟩;show(List.set _ _ _).length<=2/\(List.set _ _ _).length=(List.set _ _ _).length/\(_++[_]).length=(List.set _ _ _).length/\(_++[_]).length=(List.set _ _ _).length;simp only[aC,aq,aO];omega;rcases aB.1 A with e|e;exact r.vec w e;rw[aY.1 e];exact a.1;by_cases b:j=k;subst b;exact⟨_,_,v,G,aen d _ _,aen l _ _,acg m v,acg n G,q⟩;have z:jO j=1280+1792*j:=rfl;obtain⟨D,C,F,p,s,t,u,x,y⟩:=r.rx j J;exact⟨D,C,F,p,(akj d J _ _).trans s,(akj l J _ _).trans t,(akk m J v).trans u,(akk n J G).trans x,y.frame λi H K=>f i J J⟩;show(List.set _ _ _).length=_;simp only[aC,aq,aO];omega
theorem WV (f:Filter)(s:jx)(c:Bool):∀a:Z Vector,a.length<=2->(∀v∈a,v.2.1<=3/\v.2.2.2.2.1=G)->I0 (GA f s c a).2.2.2.1.length (GA f s c a)/\(GA f s c a).2.2.2.1.length=a.length
 |[],_,_=>⟨amL f s c,rfl⟩
 |v::a,d,b=>by simp only[bj]at d;have i:=WV f s c a J λw e=>b w (by simp[e]);have o:=ane (v:=v) i.1 J (b v aD);grind[GA]
theorem alG {k}(e:ZK h=ZK k)(f:Live Q k):Live Q h:=by obtain⟨a,b,c,d,g,i,j,l⟩:=h;obtain⟨m,n,o,p,q,r,s,t⟩:=k;unfold ZK at e;simp only[Prod.mk.injEq]at e;obtain⟨rfl,rfl,rfl,rfl,rfl,rfl,rfl⟩:=e;exact⟨f.maps,f.mem,f.tx,f.rx⟩
theorem al1 (f:Mq h):Live am5 h:=by obtain⟨a,s,c,g,b,e,d⟩:=f.is;exact alG e (WV a s c g b d).1.new
theorem atk {a k}(d:k O=I O)(c:a.length<=1048576->Ends (k G) (λb=>b=O)):Ends (U (Rd a) k) (λb=>b=O):=by grind[Rd,aa,Ends.pure]
theorem Ends.true {o}(h:Ends o (λb=>b=O)):o=I true:=by obtain⟨x,a,rfl⟩:=h;exact a
theorem XW l(h:l.length<=10^9):xR l l=I true:=by refine Ends.true ?_;unfold xR;rw[bne_self_eq_false,ab];refine Ends.FZ (λx=>0<=x/\x<=(l.length:Int)) (λx=>((l.length:Int)-x).toNat) ⟨J,J⟩ J λx c b a=>?_;grind[Df,Ends.pure,Ends.idx,aj]
theorem O8 l(h:l.length<=10^9):Ay l l=I true:=by refine Ends.true ?_;unfold Ay;rw[bne_self_eq_false,ab];refine Ends.FZ (λx=>0<=x/\x<=(l.length:Int)) (λx=>((l.length:Int)-x).toNat) ⟨J,J⟩ J λx c b a=>?_;grind[Eu,Ends.pure,Ends.idx,aj]
theorem auj {a:dw}(c:alm (.sl (.int .u8)) a)(j:a.length<=1048576){i}(g:0<=i)(h:i<=1000000):Ends (Rc a i) λx=>0<=x/\x<=255:=by
 unfold Rc;refine Ends.cond (λ_=>Ends.pure ⟨gH _,J⟩) λk=>?_;have k:((a.length:Int))≠0:=by simpa using k
 have e:=Int.tmod_nonneg (a.length:Int) (a:=i*5+1) J;have f:=Int.tmod_lt_of_pos (i*5+1) (b:=(a.length:Int)) J;rw[aj (n:=i*5) J J,aj (n:=i*5+1) J J];refine Ends.ifn k (Ends.idx e f λd=>Ends.pure ?_);have l:0<=a[(Int.tmod (i*5+1) (a.length:Int)).toNat]/\a[(Int.tmod (i*5+1) (a.length:Int)).toNat]<=255:=c.2 _ (az d);grind[aj]
def kR (h:Host):=h.2.2.2.2.2.2.2.2.2.2.2.1
theorem ads (k:Nat)(h:Host):∀n,kR (TV k n h)=kR h
 |0=>rfl
 |n+1=>by refine Eq.trans ?_ (ads k h n);grind[kR,evS,TV]
theorem agT k h:kR (fu k h)=kR h:=by unfold fu;cases h.2.2.2.1[k]? with|none=>rfl|some x=>exact ads k _ _
theorem ajT k h:kR (kQ k h)=kR h:=by unfold kQ;cases h.2.2.2.2.2.1[k]?<;>rfl
theorem Qk {g:Nat->Host->Host}(a:∀k h,kR (g k h)=kR h)(h:Host):∀k,kR (eV g k h)=kR h
 |0=>rfl
 |k+1=>(a k _).trans (Qk a h k)
theorem YC h:kR (jR h)=kR h:=by grind[jR,Qk,agT]
theorem abH h:kR (kX h)=kR h:=by grind[kX,Qk,ajT]
theorem agU b k s:kR (uK b k s).2=kR s.2:=by unfold uK;rcases s.2.2.2.2.2.2.1[k]? with _|v;rfl;rcases s.2.2.2.2.2.2.2.1[k]? with _|p;rfl;rcases s.2.2.2.2.1[k]? with _|x;rfl;rcases s.2.2.2.2.2.1[k]? with _|a;rfl;simp only;cases p||(rA v).2<;>rfl
theorem UT (b:Int)(h:Host):∀k,kR (ir b k h).2=kR h
 |0=>rfl
 |k+1=>(agU b k _).trans (UT b h k)
theorem Sm h b:kR (gq h b).1=kR h:=by grind[gq,UT]
abbrev arO (W:Z PZ):=W.flatMap λw=>GI w.1 w.2
def Cr sent h:=∃hd L W,TxS h.1 h.2.2.1 hd L/\Al h.1 h.2.2.1.2.2.1 W L/\sent=kR h++arO W
theorem Cr.same (w:Cr sent h)(a:h'.2.2.1=h.2.2.1)(d:kR h'=kR h)(low:∀i,i<1280->mB h'.1 i=mB h.1 i):Cr sent h':=by obtain⟨hd,L,W,s,c,e⟩:=w;refine⟨hd,L,W,by rw[a];exact s.frame λi g=>low i J,by rw[a];exact c.frame λb _ j i _ f=>low i J,by rw[d];exact e⟩
theorem ajR {n}(g:Good n h)(l:Live Q h)(w:Cr sent h)p c z:Cr (sent++bif (pP h p c z).2 then GI p c else []) (pP h p c z).1:=by obtain⟨hd,L,W,s,b,e⟩:=w;obtain⟨d,f,a⟩:=aqL l.mem s g.tx b p c z;unfold pP;cases eJ h with|false=>exact⟨hd,L,W,s,b,gA⟩|true=>rw[l.maps];simp only[ae];refine⟨hd,d,_,f,a,?_⟩;grind[kR]
theorem YB {n}(hn:n<=1000000000000)(g:Good n h)(l:Live Q h)(w:Cr sent h):Cr sent (cS h)/\kR (cS h)=sent:=by
 obtain⟨hd,L,W,s,b,e⟩:=w;have m:=s.row.len;have f:=acb L s.ch;have k:=abA l.mem _ W L hd 17 [] 0 0 b s.row J;have d:kR (cS h)=sent:=by unfold cS kR;rw[g.ok hn];simp only[ae];show kR h++(mh h.2.1 h.1 0 h.2.2.1.1).2.1=sent;rw[l.maps,s.ring,e];exact congrArg (kR h++·) k
 obtain⟨i,a,j⟩:=Pj g hn l.maps l.mem s;have c:(cS h).1=h.1:=by grind[cS]
 refine⟨⟨a,[],[],by rw[c];exact j,by rw[i];trivial,?_⟩,d⟩;grind
theorem apb (k:Nat)(h:Host):∀n,(TV k n h).1=h.1
 |0=>rfl
 |n+1=>by refine Eq.trans ?_ (apb k h n);grind[evS,TV]
theorem YE h k b g:(tY h k b g).1=g.1:=by unfold tY;rw[apb];rfl
theorem amP {n}(hn:n<=400000000000)(g:Good n h)(l:Live Q h):∀i,i<1280->mB (jR h).1 i=mB h.1 i:=by
 have z:=tX g;have o:∀k:Nat,k<=h.2.2.2.1.length->Good (n+320*(k:Int)) (eV fu k h)/\(eV fu k h).2.2.2.1.length=h.2.2.2.1.length/\Live Qp (eV fu k h)/\∀i,i<1280->mB (eV fu k h).1 i=mB h.1 i:=by
  intro k;induction k with
  |zero=>intro _;exact⟨g.mono,rfl,l.D7 λ_ _ _ _ _ _ _=>trivial,λ_ _=>rfl⟩
  |succ k m=>
   intro A;obtain⟨i1,i2,i3,i4⟩:=m J;have t:=Nb J i1 i3 (k:=k);have f:=Ja J i1 k;have c:(fu k (eV fu k h)).2.2.2.1.length=(eV fu k h).2.2.2.1.length:=(ou k _).rx;refine⟨f.mono (by push_cast;omega),c.trans i2,t.D7 λ_ _ _ _ _ _ _=>trivial,λi j=>Eq.trans ?_ (i4 i j)⟩;show mB (fu k (eV fu k h)).1 i=_;generalize eV fu k h=r at i1 i2 i3 i4⊢;obtain⟨q,p,v,b,a,u,w,y,hd,x,P,C,F,s,D,E,H,_⟩:=i3.rx k J;have rx:=i1.rx q (aF a);have B:jO k=1280+1792*k:=rfl;obtain⟨_,_,d⟩:=Eh i3.mem J s (rx.rx J) r.2.2.2.2.2.2.2.2.1.2.2.1 (Jj i1);have e:fu k r=tY r k q.2.1.2.2 (iw (bV 38) r.1 0 q r.2.2.2.2.2.2.2.2.1.2.2.1):=by unfold fu;rw[a,i3.maps]
   rw[e,YE];exact d.out i J J
 grind[jR]
theorem afh {n}(hn:n<=1000000000000)(g:Good n h)(l:Live Q h)b:∀i,i<1280->mB (gq h b).1.1 i=mB h.1 i:=by
 cases d:dF b 1 1000 with
 |false=>grind[gq]
 |true=>
  have d:=aR.1 d;obtain⟨c,rfl⟩:=ar (J:0<=b);have m:1<=c/\c<=1000:=J;have D:=tX g;have w:∀k:Nat,k<=h.2.2.2.1.length->Good n (ir (c:Int) k h).2/\(ir (c:Int) k h).2.2.2.2.1.length=h.2.2.2.1.length/\Live Qp (ir (c:Int) k h).2/\∀i,i<1280->mB (ir (c:Int) k h).2.1 i=mB h.1 i:=by intro k;induction k with|zero=>intro _;exact⟨g,rfl,l.D7 λ_ _ _ _ _ _ _=>trivial,λ_ _=>rfl⟩|succ k u=>intro E;obtain⟨i1,i2,i3,i4⟩:=u J;have z:=Nc (B:=Qp) hn (ir (c:Int) k h).1 i1 i3 (k:=k) J m (λC q v b L M A _ _ _ _ _ _=>⟨λ_ _ _=>trivial,λ_ _ _=>trivial,λ_ _ _=>trivial⟩);refine⟨Jb (c:Int) k i1,((Jt (c:Int) k _).rx).trans i2,z.D7 λ_ _ _ _ _ _ _=>trivial,λi o=>Eq.trans ?_ (i4 i o)⟩;show mB (uK (c:Int) k (ir (c:Int) k h)).2.1 i=_;generalize ir (c:Int) k h=r at i1 i2 i3 i4⊢;obtain⟨t,r⟩:=r;simp only at i1 i2 i3 i4⊢;have H:jO k=1280+1792*k:=rfl;obtain⟨q,p,v,b,a,e,f,j,hd,x,P,C,F,s,N,R,S,_⟩:=i3.rx k J;have y:=(i1.rx q (aF a)).rx hn;obtain⟨_,_,_,_,K⟩:=Oh i3.mem J s y r.2.2.2.2.2.2.2.2.2.1 (b:=c);unfold uK;simp only[a,e,f,j,i3.maps];grind
  grind[gq]
theorem ap2 h:(kX h).1=h.1:=by
 have a:∀k,(eV kQ k h).1=h.1:=by intro k;induction k with|zero=>rfl|succ k b=>grind[kQ,eV]
 grind[kX]
theorem Uh {n}(hn:n<=400000000000)(g:Good n h)(f:Live Q h)y:(gn h y).2.2.1=h.2.2.1/\kR (gn h y)=kR h/\∀i,i<1280->mB (gn h y).1 i=mB h.1 i:=by
 have u:=tX g;have c:∀a b c d,(qV h a b c d).2.2.1=h.2.2.1/\kR (qV h a b c d)=kR h/\∀i,i<1280->mB (qV h a b c d).1 i=mB h.1 i:=λ_ _ _ _=>⟨rfl,rfl,λ_ _=>rfl⟩
 unfold gn;rw[g.ok J];simp only[ak,ab];cases (cM y).2 !=0;case true=>exact c _ _ _ _
 cases !kJ h.2.2.2.2.2.2.2.1 (cM y).1;case true=>exact c _ _ _ _
 cases ji h.2.2.2.2.2.2.2.2.1 (h.2.2.2.1.length:Int) (cM y).1== -1;case true=>exact c _ _ _ _
 simp only[ab];generalize (ji h.2.2.2.2.2.2.2.2.1 (h.2.2.2.1.length:Int) (cM y).1).toNat=k;rcases j:h.2.2.2.1[k]? with _|q;exact⟨rfl,rfl,λ_ _=>rfl⟩;simp only;obtain⟨m,_⟩:=aA.1 j;obtain⟨A,p,v,b,e,o,r,t,hd,x,P,C,F,s,B,D,E,_⟩:=f.rx k m;rw[j]at e;have e:=bu e;subst e;have z:jO k=1280+1792*k:=rfl;obtain⟨_,_,_,l⟩:=MA f.mem J s J (g.rx q (aF j)) h.2.2.2.2.2.2.2.2.1.2.2.1 (Jj g) (cM y).1 h.2.2.2.2.2.2.2.2.2.2.1;rw[f.maps];refine⟨?_,?_,λi w=>?_⟩;unfold tY;exact(MJ k _ _).tx;exact ads k _ _;rw[YE];exact l.out i J J
theorem ZB {n}(hn:n<=400000000000)(g:Good n h)(l:Live Q h)(w:Cr sent h)y:Cr sent (gn h y):=by obtain⟨a,b,c⟩:=Uh hn g l y;exact w.same a b c
theorem agS {n}(hn:n<=400000000000)(g:Good n h)(l:Live Q h)(w:Cr sent h):Cr sent (jR h):=w.same (aph h) (YC h) (amP hn g l)
theorem ajS (w:Cr sent h):Cr sent (kX h):=w.same (asI h) (abH h) λi _=>by rw[ap2]
theorem ZC {n}(hn:n<=1000000000000)(g:Good n h)(l:Live Q h)(w:Cr sent h)b:Cr sent (gq h b).1:=w.same (ajf h b) (Sm h b) (afh hn g l b)
theorem abG (t:∃hd,TxS h.1 h.2.2.1 hd [])(a:h.2.2.1.2.2.1=[]):Cr (kR h) h:=by obtain⟨hd,s⟩:=t;exact⟨hd,[],[],s,by rw[a];trivial,(bm _).symm⟩
def jI (l:Z Stream)f:=l.find? (atF f)
def J2 (p:bQ)(s:Stream):Stream:=
 bif p.2.2.2.2.2.2.2.2.1==17 then(s.1,s.2.1,s.2.2.1++udp p,s.2.2.2) else
 bif nS p 2 then s else bif s.2.2.2||nS p 4 then s else bif decide (fX s p<=((body p).length:Int)) then Zv s p else s
def ET (p:bQ):aS Stream->aS Stream
 |none=>bif p.2.2.2.2.2.2.2.2.1==17 then I (fI p,0,udp p,G) else bif nS p 2 then I (fI p,Int.tmod (V (p.2.2.2.2.2.2.2.2.2.2.2.1+1)) 4294967296,([]:Bytes),G) else W
 |some s=>I (J2 p s)
theorem agG p s:(J2 p s).1=s.1:=by
 unfold J2;cases p.2.2.2.2.2.2.2.2.1==17;case true=>rfl
 cases nS p 2;case true=>rfl
 cases s.2.2.2||nS p 4;case true=>rfl
 cases decide (fX s p<=((body p).length:Int))<;>rfl
theorem aaC A y(B:Z Stream)f:jI (A++y::B) f=(jI A f).or (if y.1=f then I y else jI B f):=by grind[jI,atF]
theorem acD (t:di p=O)l f:jI (jX l p) f=if fI p=f then ET p (jI l f) else jI l f:=by
 cases k:l.findIdx? (atF (fI p))with
 |none=>
  have x:=List.findIdx?_eq_none_iff.1 k;have m:jI l (fI p)=none:=List.find?_eq_none.2 λs c=>by rw[x s c];simp
  have e:jX l p=match ET p W with|some y=>l++[y]|none=>l:=by
   unfold jX ET;rw[t,k];simp only[ak,ab];cases p.2.2.2.2.2.2.2.2.1==17;case true=>rfl
   cases nS p 2<;>rfl
  have b:∀y,ET p W=I y->y.1=fI p:=by intro y b;unfold ET at b;cases d:p.2.2.2.2.2.2.2.2.1==17 with|true=>rw[d]at b;rw[<-bu b]|false=>rw[d]at b;cases h:nS p 2 with|true=>rw[h]at b;rw[<-bu b]|false=>rw[h]at b;cases b
  rw[e];cases r:ET p W with|none=>by_cases a:fI p=f;rw[aI a,<-a,m,r];rw[aK a]|some y=>have o:=b y r;show jI (l++y::[]) f=_;rw[aaC,o];by_cases a:fI p=f;rw[aI a,aI a,<-a,m,r];rfl;rw[aK a,aK a];show(jI l f).or W=_;cases jI l f<;>rfl
 |some i=>
  obtain⟨n,o,h⟩:=List.findIdx?_eq_some_iff_getElem.1 k;have hd:l.getD i adk=l[i]:=cU n adk;have e:jX l p=l.set i (J2 p l[i]):=by
   have same:l=l.set i l[i]:=(List.set_getElem_self n).symm;unfold jX J2;rw[t,k];simp only[ak,ab,hd];cases p.2.2.2.2.2.2.2.2.1==17;case true=>rfl
   cases nS p 2;case true=>exact same
   cases l[i].2.2.2||nS p 4;case true=>exact same
   cases decide (fX l[i] p<=((body p).length:Int))with|true=>rfl|false=>exact same
  have c:∀y,l.set i y=l.take i++y::l.drop (i+1):=λy=>by rw[List.set_eq_take_append_cons_drop,aI n]
  have m:l=l.take i++l[i]::l.drop (i+1):=(List.set_getElem_self n).symm.trans (c _);have f1:l[i].1=fI p:=cw o;have z:jI (l.take i) (fI p)=none:=List.find?_eq_none.2 λs c=>by obtain⟨j,w⟩:=eM c;obtain⟨q,v⟩:=aA.1 w;rw[bp]at q;have:=h j J;rw[<-v,List.getElem_take];exact this
  have g:∀y:Stream,y.1=fI p->jI (l.take i++y::l.drop (i+1)) f=if fI p=f then I y else(jI (l.take i) f).or (jI (l.drop (i+1)) f):=by intro y b;rw[aaC,b];by_cases a:fI p=f;rw[aI a,aI a,<-a,z];rfl;rw[aK a,aK a]
  have u:=g l[i] f1;rw[<-m]at u;rw[e,c,g _ ((agG p l[i]).trans f1),u];by_cases a:fI p=f;rw[aI a,aI a,aI a];rfl;rw[aK a,aK a,aK a]
def IL f o p:=if fI p=f then ET p o else o
def Gm f o(l:Z bQ):=l.foldl (IL f) o
theorem Iu f o a b:Gm f o (a++b)=Gm f (Gm f o a) b:=List.foldl_append ..
theorem aa5 f o p b:Gm f o (p::b)=Gm f (IL f o p) b:=rfl
theorem acY {f:ON}:∀(l:Z bQ)(o:aS Stream),(∀p∈l,fI p≠f)->Gm f o l=o
 |[],o,_=>rfl
 |p::l,o,h=>by rw[aa5,IL,aK (h p List.mem_cons_self)];exact acY l o λq a=>h q (cy _ a)
theorem aaD (a:di p=O)l f:jI (jX l p) f=IL f (jI l f) p:=acD a l f
theorem V1 {b n}(h:p.2.2.2.2.2.2.2.2.2.2.2.2.2.1=n):nS p b=(V (BitVec.toNat (ie n&&&ie b)) !=0):=by unfold nS;rw[h]
theorem ahG (h:JJ p.2.2.2.2.2.2.2.2.2.2.2.2.2.1=O):nS p 2=G/\nS p 4=false:=by simp only[JJ,dW,bw]at h;rcases h with((h|h)|h)|h<;>rw[V1 h,V1 h]<;>decide
theorem aoF (h:p.2.2.2.2.2.2.2.2.2.2.2.2.2.1=16):nS p 1=G/\nS p 2=G/\nS p 4=false:=by rw[V1 h,V1 h,V1 h];decide
theorem IP (k:(p.2.2.2.2.2.2.2.2.1==17)=G)(a:nS p 2=G)(b:nS p 4=G)t:J2 p t=bif t.2.2.2 then t else bif decide (fX t p<=((body p).length:Int)) then Zv t p else t:=by grind[J2]
theorem aog {s}(h:JG s p=O)f o:IL f (IL f o s.1) p=IL f o (wZ s p).1:=by
 have C:=h;simp only[JG,aez,Rq,UB,asr,af,bw,bO]at C;obtain⟨⟨E,U,⟨_,_,_,_,_,P,Q,F,R,y,_⟩,B,u,v⟩,⟨_,_,_,D,x⟩,w,_⟩:=C;have e:(wZ s p).1=(s.1.1,s.1.2.1,s.1.2.2.1,s.1.2.2.2.1,s.1.2.2.2.2.1,s.1.2.2.2.2.2.1,s.1.2.2.2.2.2.2.1,s.1.2.2.2.2.2.2.2.1,s.1.2.2.2.2.2.2.2.2.1,s.1.2.2.2.2.2.2.2.2.2.1,s.1.2.2.2.2.2.2.2.2.2.2.1,s.1.2.2.2.2.2.2.2.2.2.2.2.1,s.1.2.2.2.2.2.2.2.2.2.2.2.2.1,p.2.2.2.2.2.2.2.2.2.2.2.2.2.1,s.1.2.2.2.2.2.2.2.2.2.2.2.2.2.2.1,s.1.2.2.2.2.2.2.2.2.2.2.2.2.2.2.2++p.2.2.2.2.2.2.2.2.2.2.2.2.2.2.2):=by unfold wZ;rw[h];rfl
 generalize (wZ s p).1=j at e;have K:fI j=fI s.1:=by rw[e];rfl
 have L:fI p=fI s.1:=by unfold fI;rw[P,Q,F,R,y]
 unfold IL;rw[K,L];by_cases g:fI s.1=f;rw[aI g,aI g,aI g];have m:(s.1.2.2.2.2.2.2.2.2.1==17)=false:=by rw[F,B];rfl
 have q6:(p.2.2.2.2.2.2.2.2.1==17)=false:=by rw[B];rfl
 have j6:(j.2.2.2.2.2.2.2.2.1==17)=false:=by rw[e];exact m
 have n:=aoF u;have a:=ahG v;have l:∀b,nS j b=nS p b:=λb=>by rw[e];rfl
 cases o with
 |none=>
  show ET p (ET s.1 W)=ET j W;have H:ET s.1 W=none:=by unfold ET;rw[m,n.2.1];rfl
  rw[H];unfold ET;rw[q6,a.1,j6,l,a.1];rfl
 |some t=>
  show I (J2 p (J2 s.1 t))=I (J2 j t);congr 1;have r:body j=body s.1++body p:=by rw[e];rfl
  have N:j.2.2.2.2.2.2.2.2.2.2.2.1=s.1.2.2.2.2.2.2.2.2.2.2.2.1:=by rw[e]
  have d:(body j).length=(body s.1).length+(body p).length:=by rw[r,aq]
  have M:(body s.1).length+(body p).length<=320:=by have:(s.1.2.2.2.2.2.2.2.2.2.2.2.2.2.2.2.length:Int)+(p.2.2.2.2.2.2.2.2.2.2.2.2.2.2.2.length:Int)<=320:=x;show s.1.2.2.2.2.2.2.2.2.2.2.2.2.2.2.2.length+p.2.2.2.2.2.2.2.2.2.2.2.2.2.2.2.length<=320;omega
  have c:=CB (show vn s.1=O by simp only[di,af]at E;exact E.1);have X:0<=s.1.2.2.2.2.2.2.2.2.2.2.2.1/\s.1.2.2.2.2.2.2.2.2.2.2.2.1<=4294967295:=by unfold vH at c;rw[show(s.1.2.2.2.2.2.2.2.2.1==17)=G from m]at c;simp only[ab,af,aR]at c;exact c.2.2.2.2.1
  have k:p.2.2.2.2.2.2.2.2.2.2.2.1=(s.1.2.2.2.2.2.2.2.2.2.2.2.1+((body s.1).length:Int))%4294967296:=by rw[w];show Int.tmod (V (s.1.2.2.2.2.2.2.2.2.2.2.2.1+((body s.1).length:Int))) 4294967296=_;rw[aj J J,fD J]
  rw[IP m n.2.1 n.2.2 t,IP j6 ((l 2).trans a.1) ((l 4).trans a.2) t];cases hd:t.2.2.2 with
  |true=>rw[ae,ae,IP q6 a.1 a.2,hd,ae]
  |false=>
   rw[ab,ab];have S:fX t s.1=(t.2.1-s.1.2.2.2.2.2.2.2.2.2.2.2.1)%4294967296:=rfl;have q:fX t j=fX t s.1:=by unfold fX;rw[N]
   have T:=VU t s.1;rw[q,d];by_cases z:fX t s.1<=((body s.1).length:Int)
   rw[ax z,ae,ax (J:fX t s.1<=(((body s.1).length+(body p).length:Nat):Int)),ae,IP q6 a.1 a.2];have d1:(Zv t s.1).2.2.2=false:=n.1;have i:fX (Zv t s.1) p=0:=by show((t.2.1+((body s.1).length:Int)-fX t s.1)%4294967296-p.2.2.2.2.2.2.2.2.2.2.2.1)%4294967296=0;rw[k];omega
   rw[d1,ab,i,iG,ae];show(t.1,((t.2.1+((body s.1).length:Int)-fX t s.1)%4294967296+((body p).length:Int)-fX (Zv t s.1) p)%4294967296,(t.2.2.1++(body s.1).drop (fX t s.1).toNat)++(body p).drop (fX (Zv t s.1) p).toNat,nS p 1)=(t.1,(t.2.1+((body j).length:Int)-fX t j)%4294967296,t.2.2.1++(body j).drop (fX t j).toNat,nS j 1)
   rw[i,q,l,d,r,List.drop_append_of_le_length J,aH];refine Prod.ext rfl (Prod.ext ?_ rfl);show((t.2.1+((body s.1).length:Int)-fX t s.1)%4294967296+((body p).length:Int)-0)%4294967296=(t.2.1+(((body s.1).length+(body p).length:Nat):Int)-fX t s.1)%4294967296;omega;rw[aw z,ab,IP q6 a.1 a.2,hd,ab];have i:fX t p=(fX t s.1-((body s.1).length:Int)):=by show(t.2.1-p.2.2.2.2.2.2.2.2.2.2.2.1)%4294967296=_;rw[k];omega
   rw[i];by_cases A:fX t s.1<=(((body s.1).length+(body p).length:Nat):Int)
   rw[ax A,ax (J:fX t s.1-((body s.1).length:Int)<=((body p).length:Int)),ae,ae];show(t.1,(t.2.1+((body p).length:Int)-fX t p)%4294967296,t.2.2.1++(body p).drop (fX t p).toNat,nS p 1)=(t.1,(t.2.1+((body j).length:Int)-fX t j)%4294967296,t.2.2.1++(body j).drop (fX t j).toNat,nS j 1)
   rw[i,q,l,d,r];refine Prod.ext rfl (Prod.ext ?_ (Prod.ext ?_ rfl));show(t.2.1+((body p).length:Int)-(fX t s.1-((body s.1).length:Int)))%4294967296=(t.2.1+(((body s.1).length+(body p).length:Nat):Int)-fX t s.1)%4294967296;omega;show t.2.2.1++(body p).drop (fX t s.1-((body s.1).length:Int)).toNat=t.2.2.1++(body s.1++body p).drop (fX t s.1).toNat;rw[List.drop_append];rw[dz (J:(body s.1).length<=(fX t s.1).toNat),bF];congr 2;omega;rw[aw A,aw (J:¬fX t s.1-((body s.1).length:Int)<=((body p).length:Int))];rfl
 rw[aK g,aK g,aK g]
abbrev CW:=UX×bQ
def YK m k(D:Z CW):=∀c∈D,di c.2=O/\c.1.2.1=((dE c.2).1.length:Int)/\xZ m (jO k+128+384*c.1.1.toNat) (dE c.2).1.length=(dE c.2).1
theorem YK.frame {D}(h:YK m k D)(f:∀c∈D,∀i,jO k+128+384*c.1.1.toNat<=i->i<jO k+512+384*c.1.1.toNat->mB m' i=mB m i):YK m' k D:=λc a=>by have b:=pV c.2;exact⟨(h c a).1,(h c a).2.1,by rw[BQ λj d=>f c a _ J J];exact(h c a).2.2⟩
def QD m k q p D:=(∃hd x P F,NR m k q p hd x P (D.map (·.1)) F)/\YK m k D
theorem QD.atp {q p}{D:Z CW}(s:NR m k q p hd x P (D.map (·.1)) F){c}(a:c∈D):c.1.1.toNat∈TS (D.map (·.1)):=by grind
theorem QD.frame {q p D}(s:QD m k q p D)(h:∀i,jO k<=i->i<jO k+1792->mB m' i=mB m i):QD m' k q p D:=by obtain⟨⟨hd,x,P,F,s⟩,c⟩:=s;refine⟨⟨hd,x,P,F,s.frame λi a b=>h i a J⟩,c.frame λy d i a b=>h i J ?_⟩;have:=s.lt (c:=y.1.1.toNat) gA;omega
theorem QD.held {q p D}(s:QD m k q p D)u:QD m k (q.1,q.2.1,q.2.2.1,u) p D:=by obtain⟨⟨hd,x,P,F,s⟩,c⟩:=s;exact⟨⟨hd,x,P,F,s.held u⟩,c⟩
theorem aoa (z:fR m)(t:k<=1){q p c}(s:NR m k q p hd x (c::P) C F)(A:KI q=O)(o:q.2.2.2.2.1=O)d(u:d.length=16): ∃y:UX,y.1=(c:Int)/\y.2.1=((dE q.2.2.2.1.1).1.length:Int)/\(iP (bV 38) m 0 q d (iM (Cw k c))).2=(D6 (jO k+64) (x+C.length+1),O)/\fR (iP (bV 38) m 0 q d (iM (Cw k c))).1/\VJ (iP (bV 38) m 0 q d (iM (Cw k c))).1 (jO k+64) x (C++[y])/\xZ (iP (bV 38) m 0 q d (iM (Cw k c))).1 (jO k+128+384*c) (dE q.2.2.2.1.1).1.length=(dE q.2.2.2.1.1).1/\∀i,i<4864->(i<jO k+64\/jO k+128<=i)->(i<jO k+128+384*c\/jO k+512+384*c<=i)->mB (iP (bV 38) m 0 q d (iM (Cw k c))).1 i=mB m i:=by
 have n:c<4:=s.lt aD;have v:=s.len;simp only[bj]at v;have h:=pU (abS t n);have r:=(Ns _).1 A;have L:=r.held o;have H:=pV q.2.2.2.1.1;have K:jO k=1280+1792*k:=rfl;have pf:=Ir z (a:=jO k+128+384*c) (s:=(dE q.2.2.2.1.1).1) (w:=true) J J (λ_=>J);generalize B:(((c:Int),((dE q.2.2.2.1.1).1.length:Int),q.2.2.2.1.2.1,q.2.2.2.1.2.2,Ca d (xD (fI q.2.2.2.1.1))):UX)=y;have ok:Aa y=true:=by grind[Aa,aR,aey,aaf]
 have g:=s.com.frame (m':=(ko (bV 38) m 0 ((jO k+128+384*c:Nat):Int) (dE q.2.2.2.1.1).1 O).1) λi D E=>by grind
 have M:=aaU pf.2.1 (b:=jO k+64) J g J ok;have f:(Cw k c).2.2.2.1=((jO k+128+384*c:Nat):Int):=rfl;have l:(Cw k c).2.2.1=384:=rfl;have j:(Cw k c).2.2.2.2.2=(c:Int):=rfl;have e:iP (bV 38) m 0 q d (iM (Cw k c))=vF (bV 38) (ko (bV 38) m 0 ((jO k+128+384*c:Nat):Int) (dE q.2.2.2.1.1).1 O).1 0 (D6 (jO k+64) (x+C.length)) y:=by rw[abu h.2 rfl (by rw[l];omega) (by rw[f];exact pf.1),f,j,s.dev,B]
 grind[RA]
def Ak (q:dq):=bif q.2.2.2.2.1 then [q.2.2.2.1.1] else []
def vE (D:Z CW)q:=D.map (·.2)++Ak q
def Adv e D q b a:=
 (∀w∈vE b a,di w=O/\∃v∈vE D q++e,fI v=fI w)/\(q.2.2.2.2.2<a.2.2.2.2.2\/a.2.2.2.2.2=q.2.2.2.2.2/\∀f o,Gm f o (vE b a)=Gm f o (vE D q++e))
theorem Adv.trans {j D d i q q1 q2}(a:Adv e D q d q1)(b:Adv j d q1 i q2):Adv (e++j) D q i q2:=by refine⟨λw r=>?_,?_⟩;obtain⟨c,v,p,hf⟩:=b.1 w r;refine⟨c,?_⟩;rcases aB.1 p with g|g;obtain⟨_,u,n,hf2⟩:=a.1 v g;exact⟨u,by rw[<-aH];exact bh _ n,hf2.trans hf⟩;exact⟨v,by rw[<-aH];exact bC _ g,hf⟩;rcases b.2 with g|⟨k,m⟩;exact Or.inl (by rcases a.2 with h|⟨c,l⟩<;>omega);rcases a.2 with h|⟨c,l⟩;exact Or.inl (by rw[k];exact h);refine Or.inr ⟨k.trans c,λf o=>?_⟩;rw[m,Iu,l,<-Iu,aH]
theorem K3 {D}(h:YK m k D):∀w∈D.map (·.2),di w=true:=by intro w b;obtain⟨c,a,rfl⟩:=cX.1 b;exact(h c a).1
theorem XC {D}(h:YK m k D){n q}(b:D5 n q):∀w∈vE D q,di w=true:=by intro w c;rcases aB.1 c with g|g;exact K3 h w g;unfold Ak at g;cases a:q.2.2.2.2.1 with|false=>rw[a]at g;cases g|true=>rw[a]at g;rw[aY.1 g];exact(b.held a).1
theorem Adv.same {D}(h:YK m k D){n q}(b:D5 n q):Adv [] D q D q:=⟨λw a=>⟨XC h b w a,w,bh _ a,rfl⟩,Or.inr ⟨rfl,λf o=>by rw[bm]⟩⟩
theorem SK (H:fR m)(R:k<=1){q p D}(s:QD m k q p D)(hN:N<=500000000000)(n:D5 N q)d(l:d.length=16):∃E,QD (iw (bV 38) m 0 q d).1 k (iw (bV 38) m 0 q d).2 p E/\Adv [] D q E (iw (bV 38) m 0 q d).2:=by
 have hn:jO k=1280+1792*k:=rfl;have r:KI q=true:=(Ns _).2 (n.mono);obtain⟨⟨hd,x,P,F,s⟩,ct⟩:=s;unfold iw;rw[r,l];cases B:q.2.2.2.2.1 with
 |false=>exact⟨D,⟨⟨hd,x,P,F,s⟩,ct⟩,Adv.same ct n⟩
 |true=>
  have T:=n.held B;have el:Ak q=[q.2.2.2.1.1]:=by unfold Ak;rw[B];rfl
  simp only[ak,cq,show(((16:Nat):Int) !=16)=G from rfl,ab];cases P with
  |nil=>
   have t:=abz (m:=m) (b:=jO k) (S:=4) (hd:=hd) (Or.inl rfl);have e:bU (bV 38) m 0 q.1=([],q.1,G):=by rw[s.ring];exact t
   rw[e];have Q:=n.drop;refine⟨D,⟨⟨hd,x,[],F,s.held _⟩,ct⟩,λw a=>?_,Or.inl ?_⟩;have a:w∈D.map (·.2)++[]:=a;rw[bm]at a;exact⟨K3 ct w a,w,bh _ (bh _ a),rfl⟩;show q.2.2.2.2.2<V (q.2.2.2.2.2+q.2.2.2.1.2.2);rw[aj J J];omega
  |cons c P=>
   have t:=HM H (b:=jO k) (S:=4) (Or.inl rfl) J (show uc m (jO k) 4 hd (iM (Cw k c)::P.map λc=>iM (Cw k c)) from s.row);have e:bU (bV 38) m 0 q.1=(iM (Cw k c),fZ (jO k) 4 (hd+1) P.length,O):=by rw[s.ring];have:=t.1;rw[bt]at this;exact this
   obtain⟨y,C,U,X,y3,Y,Z,L⟩:=aoa H R s r B d l;have M:c<4:=s.lt aD;have K:=P9 s.perm;rw[aH]at K;have A:∀z∈D,z.1.1.toNat≠c:=λz h e=>(aX.1 K).2.2 _ (QD.atp s h) c aD e;rw[e,X];simp only[bR,ae];refine⟨D++[(y,q.2.2.2.1.1)],⟨⟨hd+1,x,P,F,⟨rfl,?_,by simp;rfl,s.ZS,by rw[df];exact Y,s.pool,?_,λz h=>?_⟩⟩,λz h=>?_⟩,λw a=>?_,Or.inr ⟨rfl,λf o=>?_⟩⟩;exact t.2.frame (Or.inl rfl) λi h1 h2=>L i J J J;refine List.Perm.trans ?_ s.perm;have v:y.1.toNat=c:=by rw[C];simp
   simp only[TS,df,gC,List.map_nil,v,aH,jm,bF];exact List.Perm.refl _;rw[df]at h;rcases aB.1 h with g|g;exact s.cok z g;rw[aY.1 g];show 0<=y.1;rw[C];omega;rcases aB.1 h with g|g;have u:=ct z g;have:=pV z.2;have lt:=s.lt (c:=z.1.1.toNat) (by simp only[aH];exact bh _ (QD.atp s g));have ne:=A z g;exact⟨u.1,u.2.1,(BQ λj hj=>L _ J J J).trans u.2.2⟩;rw[aY.1 g];refine⟨T.1,U,?_⟩;have v:y.1.toNat=c:=by rw[C];simp
   show xZ _ (jO k+128+384*y.1.toNat) _=_;rw[v];exact Z;have a:w∈(D++[(y,q.2.2.2.1.1)]).map (·.2)++[]:=a;rw[bm,df]at a;have a:w∈vE D q:=by unfold vE;rw[el];exact a
   exact⟨XC ct n w a,w,bh _ a,rfl⟩;show Gm f o ((D++[(y,q.2.2.2.1.1)]).map (·.2)++[])=Gm f o (vE D q++[]);unfold vE;rw[el,bm,bm,df];rfl
theorem ahM l m q a(c:KI q=O)(b:a.length=16):(iw l m 0 q a).2.2.2.2.2.1=false:=by unfold iw;grind
theorem apv {q p D}(s:QD m k q p D)(d:D5 N q)(b:q.2.2.2.2.1=G){w}(c:eU w=O):QD m k (OW q (mi w)) p D/\Adv [w] D q D (OW q (mi w)):=by
 refine⟨s.held _,λv a=>?_,Or.inr ⟨rfl,λf o=>?_⟩⟩;have el:Ak q=[]:=by unfold Ak;rw[b];rfl
 have a:v∈D.map (·.2)++[w]:=a;rcases aB.1 a with g|g;exact⟨K3 s.2 v g,v,bh _ (bh _ g),rfl⟩;rw[aY.1 g];exact⟨(Oo c).1,w,aD,rfl⟩;have el:Ak q=[]:=by unfold Ak;rw[b];rfl
 show Gm f o (D.map (·.2)++[w])=Gm f o (vE D q++[w]);unfold vE;rw[el,bm]
theorem amG {s}(h:JG s p=O):fI (wZ s p).1=fI s.1:=by unfold wZ;rw[h];rfl
theorem aha (i:fR m)(l:k<=1){q p D}(s:QD m k q p D)(T:N<=400000000000)(n:D5 N q)a(b:a.length=16){w}(r:eU w=O)c:∃u,QD (jD (bV 38) m 0 q a w c).1 k (jD (bV 38) m 0 q a w c).2 p u/\Adv [w] D q u (jD (bV 38) m 0 q a w c).2:=by
 have d:KI q=true:=(Ns _).2 (n.mono);have U:fR m:=i;unfold jD;rw[d,b,r];simp only[ak,cq,show(((16:Nat):Int) !=16)=G from rfl,ab];cases e:c&&(q.2.2.2.2.1&&JG q.2.2.2.1 w)with
 |true=>
  simp only[af]at e;have K:=aog e.2.2;have el:Ak q=[q.2.2.2.1.1]:=by unfold Ak;rw[e.2.1];rfl
  have B:di (wZ q.2.2.2.1 w).1=O/\fI (wZ q.2.2.2.1 w).1=fI q.2.2.2.1.1:=⟨(akz e.2.2).1,amG e.2.2⟩
  have h:Ak (q.1,q.2.1,q.2.2.1,wZ q.2.2.2.1 w,q.2.2.2.2)=[(wZ q.2.2.2.1 w).1]:=by unfold Ak;simp only[e.2.1];rfl
  refine⟨D,s.held _,λv j=>?_,Or.inr ⟨rfl,λf o=>?_⟩⟩;have j:v∈D.map (·.2)++Ak (q.1,q.2.1,q.2.2.1,wZ q.2.2.2.1 w,q.2.2.2.2):=j;rw[h]at j;rcases aB.1 j with g|g;exact⟨K3 s.2 v g,v,bh _ (bh _ g),rfl⟩;rw[aY.1 g];exact⟨B.1,q.2.2.2.1.1,by unfold vE;rw[el];simp,B.2.symm⟩;show Gm f o (D.map (·.2)++Ak (q.1,q.2.1,q.2.2.1,wZ q.2.2.2.1 w,q.2.2.2.2))=Gm f o ((D.map (·.2)++Ak q)++[w]);rw[h,el,Iu,Iu,Iu];exact(K f _).symm
 |false=>simp only[ab];obtain⟨C,R,y⟩:=SK i l s J n a b;have M:=ahM (bV 38) m q a d b;have k1:=(H2 J n i.ok (bV 38) 0 a).2;obtain⟨A,z⟩:=apv R k1 M r;obtain⟨⟨hd,x,P,F,Q⟩,_⟩:=s;obtain⟨_,_,L⟩:=Eh i l Q d a b;have f0:=L.mem;cases c with|true=>exact⟨C,A,y.trans z⟩|false=>have t:=Oo r;have k2:=ack k1 t.1 t.2.1 t.2.2;obtain⟨E,S,H⟩:=SK f0 l A J k2 a b;exact⟨E,S,(y.trans z).trans H⟩
theorem anr (h:fR m)(g:k<=1){s c D}(r:NR m k s.2.1 s.2.2 hd x P (c.1::D.map (·.1)) F)(ct:YK m k (c::D)):(xU (bV 38) m 0 s).1=jX s.1 c.2:=by
 have p:jO k=1280+1792*k:=rfl;have n:=Td h (b:=jO k+64) J r.com;have j:mm (bV 38) m 0 s.2.1.2.2.1=(c.1,D6 (jO k+64) (x+1),O):=by rw[r.ZS];exact n.1
 have l:((c.1.1.toNat:Nat):Int)=c.1.1:=Int.toNat_of_nonneg (r.cok c.1 aD);have lt:c.1.1.toNat<4:=r.lt (by simp[TS]);have i:=r.afG g;rw[r.pool]at i;have e:=aj8 g i lt;rw[l]at e;have f:=ct c List.mem_cons_self;have o:=pV c.2;have d:=MG h (a:=jO k+128+384*c.1.1.toNat) (r:=(dE c.2).1.length);rw[f.2.2]at d;unfold xU;rw[j];simp only;rw[r.pool,e,f.2.1];grind[ahR,PW]
theorem aaQ (a:fR m)(d:k<=1):∀(n:Nat)(s:Z Stream×dq×gL)(x:Nat)(D:Z CW)(F:gw),NR m k s.2.1 s.2.2 hd x P (D.map (·.1)) F->YK m k D->(jq (bV 38) m 0 n s).2.1=((D.take n).map (·.2)).foldl jX s.1
 |0,s,x,D,F,r,_=>by rw[List.take_zero];rfl
 |n+1,s,x,[],F,r,_=>by
  have h:jO k=1280+1792*k:=rfl;have g:=Te a (b:=jO k+64) J r.com;have e:(mm (bV 38) m 0 s.2.1.2.2.1).2.2=false:=by rw[r.ZS,g]
  rw[jq,e];rfl
 |n+1,s,x,c::D,F,r,ct=>by have ps:=XH a d r;have j:=anr a d r ct;have i:=aaQ a d n (xU (bV 38) m 0 s) (x+1) D _ ps.2.1 λy f=>ct y (cy _ f);grind[jq]
theorem afE (e:fR m)(d:k<=1){q p D}(s:QD m k q p D)(f:KI q=O)a{b:Nat}(o:b<=1000:=by omega): QD (iU (bV 38) m 0 q p a (b:Int)).1 k (iU (bV 38) m 0 q p a (b:Int)).2.1 (iU (bV 38) m 0 q p a (b:Int)).2.2.1 (D.drop b)/\(iU (bV 38) m 0 q p a (b:Int)).2.2.2.1=((D.take b).map (·.2)).foldl jX a/\(iU (bV 38) m 0 q p a (b:Int)).2.1.2.2.2=q.2.2.2:=by obtain⟨⟨hd,x,P,F,s⟩,ct⟩:=s;have h:=s.afG d;have u:=Qb e d b (a,q,p) x _ F s;have t:=aaQ e d b (a,q,p) x D F s ct;have pf:=Oh e d s f a o;obtain⟨z,r,w,A⟩:=u;obtain⟨f1,⟨v,j,f2⟩,f3,f4,f5⟩:=pf;refine⟨⟨⟨hd,v,j,[],by rw[List.map_drop];exact f2⟩,YK.frame (m:=m) (λy g=>ct y (List.mem_of_mem_drop g)) λy g i l n=>f5 i ?_ J⟩,?_,?_⟩;have:=s.lt (c:=y.1.1.toNat) (by simp only[aH];exact bh _ (QD.atp s (List.mem_of_mem_drop g)));unfold jO at l n;omega;unfold iU;rw[f,h,aR.2 ⟨J,J⟩];simp only[ak,bL,ab,au];exact t;unfold iU;rw[f,h,aR.2 ⟨J,J⟩];simp only[ak,bL,ab,au];exact r
theorem S4:∀(l:Z bQ)(s:Z Stream)(f:ON),(∀w∈l,di w=O)->jI (l.foldl jX s) f=Gm f (jI s f) l
 |[],s,f,_=>rfl
 |w::l,s,f,h=>by rw[List.foldl_cons,S4 l _ f λv a=>h v (cy _ a),aaD (h w List.mem_cons_self),aa5]
abbrev Fl:=ON
variable {qf:Fl->Nat}
def at9 (Q:Z CW->dq->Prop)(h:Host)k:=∃q p D,h.2.2.2.1[k]?=I q/\h.2.2.2.2.1[k]?=I p/\QD h.1 k q p D/\Q D q
def Con (Q:Nat->Z CW->dq->Prop)h:=∀k,k<h.2.2.2.1.length->at9 (Q k) h k
theorem Con.step {Q Q'}(f:Con Q h)(n:h.2.2.2.1.length<=2)(u:k<h.2.2.2.1.length)(c:h'.2.2.2.1.length=h.2.2.2.1.length)(s:∀j,j≠k->h'.2.2.2.1[j]?=h.2.2.2.1[j]?/\h'.2.2.2.2.1[j]?=h.2.2.2.2.1[j]?)(out:∀i,i<4864->(i<jO k\/jO k+1792<=i)->mB h'.1 i=mB h.1 i)(o:∀j,j≠k->∀D q,Q j D q->Q' j D q)(hF:at9 (Q' k) h' k):Con Q' h':=by intro j b;by_cases a:j=k;subst a;exact hF;rw[c]at b;have v:jO k=1280+1792*k:=rfl;have r:jO j=1280+1792*j:=rfl;obtain⟨q,p,D,d,g,l,m⟩:=f j b;have e:=s j a;exact⟨q,p,D,by rw[e.1];exact d,by rw[e.2];exact g,l.frame λi t n=>out i J J,o j a D q m⟩
theorem Con.same {Q a}(f:Con Q h)(m:h.2.2.2.1.length<=2)(b:h'.2.2.2.1=h.2.2.2.1)(d:h'.2.2.2.2.1=h.2.2.2.2.1)(out:∀i,i<4864->1280<=i->mB h'.1 i=mB h.1 i)(n:∀j D q,Q j D q->a j D q):Con a h':=by intro j c;rw[b]at c;have o:jO j=1280+1792*j:=rfl;obtain⟨q,p,D,e,g,k,l⟩:=f j c;exact⟨q,p,D,by rw[b];exact e,by rw[d];exact g,k.frame λi r m=>out i J J,n j D q l⟩
def IK (h:Host):=h.2.2.2.2.2.2.2.2.2.1
def PQ (B:Nat->Int)(qf:Fl->Nat)(o Z:Fl->aS Stream)k D q:=
 (∀w∈vE D q,di w=O/\qf (fI w)=k)/\B k<=q.2.2.2.2.2/\(B k<q.2.2.2.2.2\/∀f,qf f=k->Gm f (o f) (vE D q)=Z f)
def oL B qf Z h:=Con (PQ B qf (jI (IK h)) Z) h
theorem PQ.adv {B o Z D d q i}(a:PQ B qf o Z k D q)(n:∀w∈e,qf (fI w)=k)(b:Adv e D q d i):PQ B qf o (λf=>Gm f (Z f) e) k d i:=by refine⟨λw r=>?_,by have:=a.2.1;rcases b.2 with g|g<;>omega,?_⟩;obtain⟨m,v,p,c⟩:=b.1 w r;refine⟨m,?_⟩;rw[<-c];rcases aB.1 p with g|g;exact(a.1 v g).2;exact n v g;rcases b.2 with g|⟨j,l⟩;exact Or.inl (by have:=a.2.1;omega);rcases a.2.2 with h|h;exact Or.inl (by rw[j];exact h);refine Or.inr λf c=>?_;rw[l,Iu,h f c]
theorem aeh {B Z}(f:oL B qf Z h)(F:h.2.2.2.1.length<=2)(m:k<h.2.2.2.1.length){v}(J:h.2.2.2.2.2.1[k]?=I v)(s:∀w∈e,qf (fI w)=k){b}(out:∀i,i<4864->(i<jO k\/jO k+1792<=i)->mB g.1 i=mB h.1 i)(H:∀q p D,h.2.2.2.1[k]?=I q->QD h.1 k q p D->∃a,QD g.1 k g.2 p a/\Adv e D q a g.2):oL B qf (λf=>Gm f (Z f) e) (tY h k b g):=by
 have o:(Jq h k g).2.2.2.2.2.1[k]?=I v:=J;have c:∃n,tY h k b g=(g.1,h.2.1,h.2.2.1,h.2.2.2.1.set k g.2,h.2.2.2.2.1,h.2.2.2.2.2.1.set k (evN n v),h.2.2.2.2.2.2):=⟨_,by unfold tY;rw[ahA o];rfl⟩
 obtain⟨n,c⟩:=c;obtain⟨q,p,D,x,y,z,A⟩:=f k m;obtain⟨a,C,E⟩:=H q p D x z;rw[c];refine Con.step (Q:=PQ B qf (jI (IK h)) Z) f F m (aC ..) (λj l=>⟨aJ (cI l),rfl⟩) out (λj l D q d=>⟨d.1,d.2.1,?_⟩) ⟨g.2,p,a,bn m,y,C,A.adv s E⟩;rcases d.2.2 with r|r;exact Or.inl r;refine Or.inr λf t=>?_;show Gm f (jI (IK h) f) (vE D q)=Gm f (Z f) e;rw[r f t,acY e (Z f) λw K u=>l (by rw[<-t,<-u];exact s w K)]
theorem aef {n}(hn:n<=500000000000)(g:Good n h)(l:Live Q h){B Z}(f:oL B qf Z h)(d:k<h.2.2.2.1.length):oL B qf Z (fu k h):=by
 have m:=tX g;obtain⟨q,p,v,b,c,t,j,u,hd,x,P,C,F,s,A,E,H,_⟩:=l.rx k d;have rx:=g.rx q (aF c);have e:fu k h=tY h k q.2.1.2.2 (iw (bV 38) h.1 0 q h.2.2.2.2.2.2.2.2.1.2.2.1):=by unfold fu;rw[c,l.maps]
 obtain⟨_,_,i⟩:=Eh l.mem J s (rx.rx J) _ (Jj g);rw[e];refine aeh f m d j (e:=[]) (λw r=>by cases r) i.out λz y D a o=>?_;rw[c]at a;have a:=bu a;subst a;exact SK l.mem J o hn rx _ (Jj g)
theorem ahI {n}(hn:n<=400000000000)(g:Good n h)(l:Live Q h){B Z}(f:oL B qf Z h):oL B qf Z (jR h):=by
 have i:=tX g;have d:∀k:Nat,k<=h.2.2.2.1.length->Good (n+320*(k:Int)) (eV fu k h)/\(eV fu k h).2.2.2.1.length=h.2.2.2.1.length/\Live Qp (eV fu k h)/\oL B qf Z (eV fu k h):=by intro k;induction k with|zero=>intro _;exact⟨g.mono,rfl,l.D7 λ_ _ _ _ _ _ _=>trivial,f⟩|succ k c=>intro j;obtain⟨i1,i2,i3,i4⟩:=c J;have e:=Nb J i1 i3 (k:=k);have b:=Ja J i1 k;have a:(fu k (eV fu k h)).2.2.2.1.length=(eV fu k h).2.2.2.1.length:=(ou k _).rx;exact⟨b.mono (by push_cast;omega),a.trans i2,e.D7 λ_ _ _ _ _ _ _=>trivial,aef J i1 i3 i4 J⟩
 grind[jR]
def akY (a:Filter)(b:jx)(n:Int)(Z:Fl->aS Stream)(y:Bytes):Fl->aS Stream:=
 bif ((cM y).2==0)&&(kJ a (cM y).1&&(ji b n (cM y).1 != -1)) then λf=>IL f (Z f) (cM y).1 else Z
theorem XO {y}(h:((cM y).2==0)=O):eU (cM y).1=true:=by grind[cM]
theorem acd {n}(hn:n<=400000000000)(g:Good n h)(l:Live Q h){B Z}(f:oL B qf Z h)y(t:di (cM y).1=O->ji h.2.2.2.2.2.2.2.2.1 (h.2.2.2.1.length:Int) (cM y).1≠ -1->(ji h.2.2.2.2.2.2.2.2.1 (h.2.2.2.1.length:Int) (cM y).1).toNat=qf (fI (cM y).1)):oL B qf (akY h.2.2.2.2.2.2.2.1 h.2.2.2.2.2.2.2.2.1 (h.2.2.2.1.length:Int) Z y) (gn h y):=by
 have r:=tX g;have Gy:∀a b c d,oL B qf Z (qV h a b c d):=λa b c d=>Con.same (h':=qV h a b c d) f r rfl rfl (λ_ _ _=>rfl) λ_ _ _ L=>L;have lc:∀a b c d,Live Qp (qV h a b c d):=λa b c d=>(l.D7 λ_ _ _ _ _ _ _=>trivial).same (h':=qV h a b c d) l.mem rfl rfl rfl rfl rfl l.tx (λ_ _ _=>rfl) r;unfold gn akY;rw[g.ok J];simp only[ak,ab];cases u:(cM y).2 !=0 with
 |true=>rw[show((cM y).2==0)=G from by simpa[bne]using u];exact Gy _ _ _ _
 |false=>
  have m:((cM y).2==0)=true:=by simpa[bne]using u
  have pk:=XO m;rw[m];cases T:kJ h.2.2.2.2.2.2.2.1 (cM y).1;exact Gy _ _ _ _;cases hs:ji h.2.2.2.2.2.2.2.2.1 (h.2.2.2.1.length:Int) (cM y).1== -1 with
  |true=>rw[show(ji h.2.2.2.2.2.2.2.2.1 (h.2.2.2.1.length:Int) (cM y).1 != -1)=G from by unfold bne;rw[hs];rfl];exact Gy _ _ _ _
  |false=>
   rw[show(ji h.2.2.2.2.2.2.2.2.1 (h.2.2.2.1.length:Int) (cM y).1 != -1)=O from by unfold bne;rw[hs];rfl];simp only[ak,ab,bR,ae];have sup:di (cM y).1=true:=by simp only[eU,af]at pk;exact pk.1
   have ne:ji h.2.2.2.2.2.2.2.2.1 (h.2.2.2.1.length:Int) (cM y).1≠ -1:=by simpa using hs
   have z:=t sup ne;rcases OD (s:=h.2.2.2.2.2.2.2.2.1) (q:=(h.2.2.2.1.length:Int)) (p:=(cM y).1)with e|⟨k,e,U⟩;exact absurd e ne;rw[e,au]at z⊢;have j:k<h.2.2.2.1.length:=J;rw[ah j];simp only;obtain⟨q,p,v,b,o,R,H,S,hd,x,P,C,F,s,Y,w2,w3,_⟩:=l.rx k j;have A:h.2.2.2.1[k]=q:=by rw[ah j]at o;exact bu o
   rw[A,l.maps];have rx:=g.rx q (aF o);obtain⟨_,_,_,E⟩:=MA l.mem J s J rx h.2.2.2.2.2.2.2.2.1.2.2.1 (Jj g) (cM y).1 h.2.2.2.2.2.2.2.2.2.2.1;exact aeh (Gy h.2.2.2.2.2.2.2.2.2.2.2.2.2.2.2.1 h.2.2.2.2.2.2.2.2.2.2.2.2.2.2.2.2.1 h.2.2.2.2.2.2.2.2.2.2.2.2.2.2.2.2.2.1 (V (h.2.2.2.2.2.2.2.2.2.2.2.2.2.2.2.2.2.2+1))) r j H (e:=[(cM y).1]) (λw M=>by rw[aY.1 M];exact z.symm) E.out λN X D i K=>by have i:h.2.2.2.1[k]?=I N:=i;rw[o]at i;have i:=bu i;subst i;exact aha l.mem J K hn rx _ (Jj g) pk _
theorem oL.same {B Z}(f:oL B qf Z h)(d:h.2.2.2.1.length<=2)(a:h'.2.2.2.1=h.2.2.2.1)(b:h'.2.2.2.2.1=h.2.2.2.2.1)(c:IK h'=IK h)(out:∀i,i<4864->1280<=i->mB h'.1 i=mB h.1 i):oL B qf Z h':=Con.same f d a b out λj D q e=>by rw[c];exact e
theorem alW {n}(g:Good n h)(l:Live Q h){B Z}(f:oL B qf Z h)p c z:oL B qf Z (pP h p c z).1:=by obtain⟨hd,L,s⟩:=l.tx;obtain⟨a,⟨e,b⟩,d⟩:=abb l.mem s g.tx p c z;unfold pP;cases eJ h with|false=>exact f|true=>rw[l.maps];exact f.same (h':=(_,_,_,h.2.2.2)) (tX g) rfl rfl rfl d
theorem YU {n}(hn:n<=1000000000000)(g:Good n h){B Z}(f:oL B qf Z h):oL B qf Z (cS h):=by unfold cS;rw[g.ok hn,ae];exact oL.same (h':=(h.1,h.2.1,_,h.2.2.2.1,h.2.2.2.2.1,h.2.2.2.2.2.1,h.2.2.2.2.2.2.1,h.2.2.2.2.2.2.2.1,h.2.2.2.2.2.2.2.2.1,h.2.2.2.2.2.2.2.2.2.1,_)) f (tX g) rfl rfl rfl λ_ _ _=>rfl
theorem alX {n}(hn:n<=1000000000000)(g:Good n h){B Z}(f:oL B qf Z h):oL B qf Z (kX h):=by
 have e:∀k,(eV kQ k h).1=h.1/\(eV kQ k h).2.2.2.1=h.2.2.2.1/\(eV kQ k h).2.2.2.2.1=h.2.2.2.2.1/\IK (eV kQ k h)=IK h:=by intro k;induction k with|zero=>exact⟨rfl,rfl,rfl,rfl⟩|succ k j=>grind[kQ,eV,IK]
 unfold kX;rw[g.ok hn,ae];obtain⟨a,b,c,d⟩:=e h.2.2.2.2.2.1.length;exact f.same (tX g) b c d λi _ _=>by rw[a]
theorem aei {n}(hn:n<=1000000000000)t(g:Good n h)(l:Live Q h){B Z}(f:oL B qf Z h)(H:k<h.2.2.2.1.length){c:Nat}(hc:1<=c/\c<=1000):oL B qf Z (uK (c:Int) k (t,h)).2:=by
 have YJ:jO k=1280+1792*k:=rfl;have N:=tX g;obtain⟨q,p,v,b,o,A,g3,g4,hd,x,P,C,F,s,w1,w2,w3,w4⟩:=l.rx k H;have Y:=(g.rx q (aF o)).rx hn;obtain⟨U,p',D,d1,d2,d3,d4⟩:=f k H;rw[o]at d1;have d1:=bu d1;subst d1;rw[A]at d2;have d2:=bu d2;subst d2;obtain⟨m1,_,_,_,T⟩:=Oh l.mem J s Y h.2.2.2.2.2.2.2.2.2.1 (b:=c);obtain⟨V,X,z⟩:=afE l.mem J d3 Y h.2.2.2.2.2.2.2.2.2.1 (b:=c);obtain⟨L,_⟩:=aA.1 o;obtain⟨K,_⟩:=aA.1 A;unfold uK;simp only[o,A,g3,g4,l.maps];generalize hR:iU (bV 38) h.1 0 q p h.2.2.2.2.2.2.2.2.2.1 (c:Int)=R at m1 T V X z;cases b||(rA v).2 with
 |false=>exact oL.same (h':=(h.1,bV 38,h.2.2.1,h.2.2.2.1,h.2.2.2.2.1,_,_,h.2.2.2.2.2.2.2)) f N rfl rfl rfl λ_ _ _=>rfl
 |true=>
  simp only[ae];have m:∀w∈(D.take c).map (·.2),di w=O/\qf (fI w)=k:=λw d=>by obtain⟨y,M,rfl⟩:=cX.1 d;exact d4.1 _ (bh _ (cX.2 ⟨y,List.mem_of_mem_take M,rfl⟩))
  have lk:∀a,jI R.2.2.2.1 a=Gm a (jI (IK h) a) ((D.take c).map (·.2)):=λa=>by rw[X,S4 _ _ _ λw d=>(m w d).1];rfl
  have S:Ak R.2.1=Ak q:=by unfold Ak;rw[z]
  refine Con.step (Q:=PQ B qf (jI (IK h)) Z) f N H (aC ..) (λj r=>⟨aJ (cI r),aJ (cI r)⟩) (λi hi ho=>T i hi J) (λj r D' U E=>⟨E.1,E.2.1,?_⟩) ⟨R.2.1,R.2.2.1,D.drop c,bn L,bn K,V,λw d=>?_,by rw[z];exact d4.2.1,?_⟩;rcases E.2.2 with e|e;exact Or.inl e;refine Or.inr λa hf=>?_;show Gm a (jI R.2.2.2.1 a) (vE D' U)=Z a;have e9:Gm a (jI (IK h) a) ((D.take c).map (·.2))=jI (IK h) a:=acY _ _ λw d e0=>r (by rw[<-hf,<-e0];exact(m w d).2);rw[lk,e9];exact e a hf;unfold vE at d;rw[S]at d;refine d4.1 w ?_;rcases aB.1 d with u|u;obtain⟨y,M,rfl⟩:=cX.1 u;exact bh _ (cX.2 ⟨y,List.mem_of_mem_drop M,rfl⟩);exact bC _ u;rcases d4.2.2 with e|e;exact Or.inl (by rw[z];exact e);refine Or.inr λa hf=>?_;show Gm a (jI R.2.2.2.1 a) (vE (D.drop c) R.2.1)=Z a;unfold vE;rw[lk,S,<-Iu,<-aH,<-df,cH];exact e a hf
theorem ace {n}(hn:n<=1000000000000)(g:Good n h)(l:Live Q h){B Z}(f:oL B qf Z h)b:oL B qf Z (gq h b).1:=by
 cases a:dF b 1 1000 with
 |false=>grind[gq]
 |true=>
  have a:=aR.1 a;obtain⟨c,rfl⟩:=ar (J:0<=b);have d:1<=c/\c<=1000:=J;have i:∀k:Nat,k<=h.2.2.2.1.length->Good n (ir (c:Int) k h).2/\(ir (c:Int) k h).2.2.2.2.1.length=h.2.2.2.1.length/\Live Qp (ir (c:Int) k h).2/\oL B qf Z (ir (c:Int) k h).2:=by intro k;induction k with|zero=>intro _;exact⟨g,rfl,l.D7 λ_ _ _ _ _ _ _=>trivial,f⟩|succ k e=>intro o;obtain⟨i1,i2,i3,i4⟩:=e J;have j:=Nc (B:=Qp) hn (ir (c:Int) k h).1 i1 i3 (k:=k) J d (λC q v b p r m _ _ _ _ _ _=>⟨λ_ _ _=>trivial,λ_ _ _=>trivial,λ_ _ _=>trivial⟩);exact⟨Jb (c:Int) k i1,((Jt (c:Int) k _).rx).trans i2,j.D7 λ_ _ _ _ _ _ _=>trivial,aei hn (ir (c:Int) k h).1 i1 i3 i4 J d⟩
  grind[gq]
theorem ad0 {n}(hn:n<=1000000000000)(g:Good n h){q}(f:q∈h.2.2.2.1)(i:0<q.2.2.2.2.2):0<fN h:=by
 have j:=tX g;have d:∀q∈h.2.2.2.1,0<=q.2.2.2.2.2/\q.2.2.2.2.2<=1000000000000:=λq f=>by have:=(g.rx q f).drop;omega
 unfold fN;generalize h.2.2.2.1=l at j f d;clear g;rcases l with _|⟨a,l⟩;cases f;have m:=d a aD;rcases l with _|⟨b,l⟩;rw[aY.1 f]at i;show 0<V (0+a.2.2.2.2.2);rw[aj J J];omega;have o:=d b aD;rcases l with _|⟨c,l⟩;show 0<V (V (0+a.2.2.2.2.2)+b.2.2.2.2.2);have k:0<a.2.2.2.2.2\/0<b.2.2.2.2.2:=by rcases bW.1 f with e|e;rw[e]at i;exact Or.inl i;rw[aY.1 e]at i;exact Or.inr i
 rw[aj (n:=0+a.2.2.2.2.2) J J,aj J J];omega;simp only[bj]at j;omega
structure Af (a b:Host):Prop where
 oB:b.2.2.2.2.2.2.2.1=a.2.2.2.2.2.2.2.1
 Mo:TH b=TH a
 len:b.2.2.2.1.length=a.2.2.2.1.length
theorem Af.refl a:Af a a:=⟨rfl,rfl,rfl⟩
theorem Af.trans {a b c}(h:Af a b)(g:Af b c):Af a c:=⟨g.oB.trans h.oB,g.Mo.trans h.Mo,g.len.trans h.len⟩
theorem Af.of {a b}(h:oM k a b):Af a b:=⟨h.oB,h.Mo,h.rx⟩
theorem ae9 h:Af h (jR h):=by unfold jR;cases eJ h with|false=>exact Af.refl h|true=>exact .of (mf ou h _)
theorem ait h:Af h (kX h):=by unfold kX;cases eJ h with|false=>exact Af.refl h|true=>exact .of (mf yn h _)
theorem Y6 h b:Af h (gq h b).1:=by unfold gq;cases eJ h&&dF b 1 1000 with|false=>exact Af.refl h|true=>exact .of (yW b h _)
theorem Xe h:Af h (cS h):=by unfold cS;cases eJ h<;>exact⟨rfl,rfl,rfl⟩
theorem ais h p c z:Af h (pP h p c z).1:=by unfold pP;cases eJ h<;>exact⟨rfl,rfl,rfl⟩
theorem Y5 h x:Af h (gn h x):=by
 have c:∀a b c d,Af h (qV h a b c d):=λ_ _ _ _=>⟨rfl,rfl,rfl⟩
 unfold gn;cases !eJ h;case true=>exact Af.refl h
 cases (cM x).2 !=0;case true=>exact c _ _ _ _
 cases !kJ h.2.2.2.2.2.2.2.1 (cM x).1;case true=>exact c _ _ _ _
 cases ji h.2.2.2.2.2.2.2.2.1 (h.2.2.2.1.length:Int) (cM x).1== -1;case true=>exact c _ _ _ _
 simp only[ab];cases h.2.2.2.1[(ji h.2.2.2.2.2.2.2.2.1 (h.2.2.2.1.length:Int) (cM x).1).toNat]? with|none=>exact Af.refl h|some q=>exact(c _ _ _ _).trans (.of (JB (adJ ..)))
theorem aeg (l:Live am5 h)qf{B}(g:∀k q,h.2.2.2.1[k]?=I q->B k<=q.2.2.2.2.2):oL B qf (jI (IK h)) h:=by
 refine λk j=>?_;obtain⟨q,p,v,b,a,d,n,o,hd,x,P,C,F,s,t,u,y,rfl,_,m,_⟩:=l.rx k j;have e:vE [] q=[]:=by unfold vE Ak;rw[m];rfl
 refine⟨q,p,[],a,d,⟨⟨hd,x,P,F,s⟩,λc i=>by cases i⟩,λw r=>?_,g k q a,Or.inr λf _=>?_⟩;grind;rw[e];rfl
theorem Ob {l:Z α}(h:k<l.length)x:idx (l.set k x) (k:Int)=I x:=by rw[Oa,bn h]
theorem ast (l:Z α)k x:(l.set k x).length=l.length:=aC ..
def HQ (f:Filter)(v:Int):Filter×Bool:=bif gu f&&(!hasB f.2.2 v&&gu (f.1,f.2.1,ins v f.2.2)) then((f.1,f.2.1,ins v f.2.2),O) else(f,G)
theorem aeL f v(h:f.2.2.length<=100000000):GV f v=I (HQ f v):=by have a:=Vx v f.2.2;simp only[GV,sC f J,uk f J,Je f.2.2 v J,akp f.2.2 v J,uk (f.1,f.2.1,ins v f.2.2) (J:(ins v f.2.2).length<=10^9),aa,HQ];cases gu f<;>cases hasB f.2.2 v<;>cases gu (f.1,f.2.1,ins v f.2.2)<;>rfl
theorem atj {l}(h:(range l.length).all (Pn l)=O):∀(k j:Nat),j<k->k<l.length->l.getD j 0<l.getD k 0:=by
 rw[aL]at h;intro k;induction k with
 |zero=>intro j d;omega
 |succ k f=>
  intro j d e;have b:=h (k+1) (bK.2 e);simp only[Pn,af,aW,Bool.and_eq_false_iff,cp]at b;have a:¬l.getD (k+1) 0<=l.getD (k+1-1) 0:=by rcases b.2 with a|a;omega;exact a
  rw[Nat.add_sub_cancel]at a;rcases ca j k with c|c;have:=f j c J;omega;have:j=k:=J;subst this;omega
theorem arD f v(hf:gu f=O)(u:hasB f.2.2 v=O)q:gu (f.1,q,f.2.2.take (f.2.2.findIdx (λx=> !decide (x<v)))++[v]++f.2.2.drop (f.2.2.findIdx (λx=> !decide (x<v))))=false:=by
 have b:=atj (by simp only[gu,af]at hf;exact hf.1);generalize f.2.2=l at*;obtain⟨k,c,a⟩:=List.mem_iff_getElem.1 (QP.1 u);have hex:∃x∈l,(λx=> !decide (x<v)) x=true:=⟨l[k],az c,by simp[a]⟩
 have n:=List.findIdx_lt_length_of_exists hex;have s:l.findIdx (λx=> !decide (x<v))<=k:=by rcases ca k (l.findIdx (λx=> !decide (x<v)))with h|h;have:=List.not_of_lt_findIdx h;simp[a]at this;exact h
 generalize l.findIdx (λx=> !decide (x<v))=j at*;have e:l[j]<=v:=by rcases ca j k with h|h;have:=b k j h c;rw[cU c,cU n,a]at this;omega;have:j=k:=J;subst this;omega
 rw[Bool.eq_false_iff];intro m;simp only[gu,af,aL]at m;have o:(l.take j++[v]++l.drop j).length=l.length+1:=by simp;omega
 have g:=m.1 (j+1) (bK.2 J);have d:(l.take j++[v]).length=j+1:=by simp;omega
 have p:(l.take j++[v]++l.drop j).getD (j+1) 0=l[j]:=by rw[bH,bN J,d,kz,cA,eY,ah n];rfl
 have r:(l.take j++[v]++l.drop j).getD j 0=v:=by
  have t:(l.take j).length=j:=by simp;omega
  rw[bH,bE J,bN J,t,kz];rfl
 simp only[Pn,af,aW,Bool.and_eq_false_iff,cp,Nat.add_sub_cancel,p,r]at g;rcases g.2 with i|i;omega;exact i e
theorem af9 f v(h:f.2.2.length<=100000000):Hg f v=I (HQ f v):=by
 unfold Hg;rw[jJ f J,aa]
 let K:=λg=>U (sub f.2.2 0 g) λa=>
     room (List.length ([]:dw)+List.length a) (
     room (List.length (([])++a)+List.length ([v])) (
     U (sub f.2.2 g ((List.length f.2.2))) λc=>
     room (List.length ((([])++a)++([v]))+List.length c) (
     U (
      U (iy f) λk=>
      cond (!k) (
       I O) (
       U (iy (f.1,f.2.1,((([])++a)++([v]))++c)) λl=>
       I (!l))) λq9=>
     cond q9 (
      U (I f) λb=>
      I (b,G)) (
      I ((f.1,f.2.1,((([])++a)++([v]))++c),O)))))
 show aQ (vJ K v f (0,G,([])) f) fuel 0=_;rw[HE (hit:=K) (fin:=K (f.2.2.length)) (λx=> !decide (x<v)) f.2.2 J (λi m j=>?hs) (λj=>?hf)]
 case hs=>
  grind[vJ,aP,aj,aa]
 case hf=>
  simp_all[vJ]
 refine Eq.trans (ad8 (λx=> !decide (x<v)) K f.2.2) ?_;have e:=aik v f.2.2;have d:=arD f v;grind[Vx,Yo,KR,aa,aU,re,HQ,gu,QP]
def Eg (f:Filter)(v:Int):Filter×Bool:=bif gu f&&hasB f.2.2 v then((f.1,f.2.1,f.2.2.filter (λx=>x !=v)),O) else(f,G)
theorem TX p(l:dw)i a:(l.take (i+1)).filter p=bif p l[i] then(l.take i).filter p++[l[i]] else(l.take i).filter p:=by grind[aM]
theorem Md p(l:dw)i:((l.take i).filter p).length<=l.length:=bf (List.length_filter_le _ _) (by simp;omega)
theorem acq f v(h:f.2.2.length<=10^9):E0 f v=I (Eg f v):=by simp only[E0,sC f h,uk f h,Je f.2.2 v h,aa,Eg];cases gu f;rfl;cases hasB f.2.2 v;rfl;refine(bJ (λi=>((i:Int),f.1,f.2.1,(f.2.2.take i).filter (λx=>x !=v))) f.2.2.length J (λi b a=>?_) (λb=>?_));have c:=Md (λx=>x !=v) f.2.2 i;simp only[yx];rw[iG,aP a,aj J J,TX _ _ i a];simp only[ae,aa];rw[aU (by simp only[aO];omega)];cases f.2.2[i] !=v<;>rfl;simp only[yx];rw[ga,bB];rfl
theorem ac5 f v(h:f.2.2.length<=10^9):Fp f v=I (Eg f v):=by simp only[Fp,jJ f h,re f h,LH f.2.2 v h,aa,Eg];cases gu f;rfl;cases hasB f.2.2 v;rfl;refine(bJ (λi=>((i:Int),f.1,f.2.1,(f.2.2.take i).filter (λx=>x !=v))) f.2.2.length J (λi b a=>?_) (λb=>?_));have c:=Md (λx=>x !=v) f.2.2 i;simp only[ze];rw[iG,aP a,aj J J,TX _ _ i a];simp only[ae,aa];rw[aU (by simp only[aO];omega)];cases f.2.2[i] !=v<;>rfl;simp only[ze];rw[ga,bB];rfl
def nD (f:Filter)(m:J6):Filter×Int:=
 bif m.2.1==1 then(bif gu (m.2.2,f.2) then((m.2.2,f.2),1) else(f,0))
 else bif m.2.1==2 then(bif (HQ f m.2.2).2 then((HQ f m.2.2).1,1) else(f,0))
 else bif m.2.1==3 then(bif (Eg f m.2.2).2 then((Eg f m.2.2).1,1) else(f,0))
 else bif m.2.1==4 then(f,f.1) else(f,0)
theorem aeP f(m:J6)(h:f.2.2.length<=100000000):Ha f m=I (nD f m):=by grind[Ha,sC,uk,aeL,acq,aa,nD]
theorem agc f(m:J6)(h:f.2.2.length<=100000000):Bz f m=I (nD f m):=by grind[Bz,jJ,re,af9,ac5,aa,nD]
theorem abW f m{n}(h:f.2.2.length<=n)(hn:8<=n):(nD f m).1.2.2.length<=n:=by grind[Eg,gu,nD,HQ]
def pz b m:=
 bif oZ b then(bif m.1==b.2.1 then(b,b.2.2.1) else bif m.1==b.2.1+1 then(((nD b.1 m).1,m.1,(nD b.1 m).2,b.2.2.2+1),(nD b.1 m).2) else(b, -1)) else(b, -1)
theorem Xm {b}(h:oZ b=O):0<=b.2.1/\b.2.1<=1000000000000/\0<=b.2.2.2/\b.2.2.2<=1000000000000:=by grind[oZ,aR]
theorem ah5 b(m:J6)(h:b.1.2.2.length<=100000000):ur b m=I (pz b m):=by simp only[ur,Gj b J,aeV b J,aeP b.1 m h,aa,pz,bne];cases c:oZ b with|false=>rfl|true=>have a:=Xm c;grind[aj]
theorem ajq b(m:J6)(h:b.1.2.2.length<=100000000)(j:m.1<=9223372036854775807):uR b m=I (pz b m):=by
 simp only[uR,nv b J,ago b J,agc b.1 m h,aa,pz,bne];cases i:oZ b with
 |false=>rfl
 |true=>
  have g:=Xm i;rw[aj (n:=b.2.2.2+1) J J];by_cases a:m.1=b.2.1;rw[bw.2 a];rfl;have d:=cc.2 a;rw[d];by_cases c:m.1<=b.2.1;have e:(m.1==b.2.1+1)=false:=cc.2 J;rw[e,ax c];rfl;rw[aw c,aj J J];have f:(m.1-1==b.2.1)=(m.1==b.2.1+1):=by rw[fE,bw,bw];omega
  rw[f];cases m.1==b.2.1+1<;>rfl
def lX (K:Z dY)(k:Nat)(m:J6):Z dY×Int:=
 match K[k]? with
 |none=>(K, -1)
 |some b=>bif (cK (K.set k (pz b m).1)).2 then(K.set k (pz b m).1,(pz b m).2)
  else(K.set k (b.1,m.1,0,V (b.2.2.2+1)),0)
theorem MW b m{n}(h:b.1.2.2.length<=n)(hn:8<=n):(pz b m).1.1.2.2.length<=n:=by have:=abW b.1 m h hn;grind[pz]
theorem Lq {l:Z α}{x y}(h:y∈l.set k x):y∈l\/y=x:=cG h
theorem SQ K(k:Nat)(m:J6)(a:k<K.length)(d:K.length<=10^9)(h:∀b∈K,b.1.2.2.length<=100000000):wV K (k:Int) m=I (lX K k m):=by
 have c:=h _ (az a);have e:∀b∈K.set k (pz K[k] m).1,b.1.2.2.length<=10^9:=by grind[MW]
 unfold wV lX;simp only[OZ K d (λb c=>gA),aP a,ah5 _ m c,aa,ah a,au,FQ _ e,Gj K[k] J];simp only[Ob a,aa,List.set_set];grind
theorem KN K(k:Nat)(m:J6)(a:k<K.length)(n:K.length<=10^9)(h:∀b∈K,b.1.2.2.length<=100000000)(e:m.1<=9223372036854775807):vV K (k:Int) m=I (lX K k m):=by
 have f:=h _ (az a);have j:∀b∈K.set k (pz K[k] m).1,b.1.2.2.length<=10^9:=by intro b c;rcases Lq c with g|rfl;have:=h b g;omega;have:=MW K[k] m f J;omega
 unfold vV lX;refine(bJ (λi=>(K.take i,(i:Int))) K.length J (λi l d=>?_) (λl=>?_));simp only[vg];rw[iG,aP d,aj J J];have:=h _ (az d);simp only[ae,aa,nv K[i] J];rw[aU (by simp;omega),<-aM d];rfl;simp only[vg];rw[ga,bB];simp only[ab,aP a,ajq _ m f e,aa,ah a,au,qG _ j,nv K[k] (J:K[k].1.2.2.length<=10^9)];simp only[Ob a,aa,List.set_set];cases (cK (K.set k (pz K[k] m).1)).2<;>rfl
theorem Ah K k m:(lX K k m).1.length=K.length:=by unfold lX;split;rfl;rename_i b _;cases (cK (K.set k (pz b m).1)).2<;>exact ast ..
theorem HT K k m{n}(hn:8<=n)(h:∀b∈K,b.1.2.2.length<=n):∀b∈(lX K k m).1,b.1.2.2.length<=n:=by
 intro b a;unfold lX at a;split at a;exact h b a;rename_i c e;have f:=h c (aF e);cases g:(cK (K.set k (pz c m).1)).2 with
 |true=>rw[g]at a;rcases Lq a with d|rfl;exact h b d;exact MW c m f hn
 |false=>rw[g]at a;rcases Lq a with d|rfl;exact h b d;exact f
theorem uj (c:dv)(z:cJ 1000000000 xz c):kY c=I c:=by have e:=z.1.1;unfold kY;simp only[CE _ z.2.1.1,OZ _ z.2.2.1.1 (λm b=>(z.2.2.1.2 m b).1.2.2.1),oY,pW _ z.2.2.2.1.1,qj _ z.2.2.2.2.2.1.1,pW _ z.2.2.2.2.2.2.1,aa];refine(bJ (λi=>((i:Int),c.1.take i,c.2)) c.1.length J (λi d a=>?_) (λd=>?_));simp only[yR];rw[iG,aP a,aj J J];simp only[ae,aa,mu _ (z.1.2 _ (az a))];rw[aU (by simp;omega),<-aM a];rfl;simp only[yR];rw[ga,bB];rfl
theorem uL (c:dv)(z:cJ 1000000000 xz c):mK c=I c:=by have d:=z.1.1;have e:=z.2.2.1.1;unfold mK;simp only[fi z.2.1.1,fi z.2.2.2.1.1,fi z.2.2.2.2.2.1.1,fi z.2.2.2.2.2.2.1,bF];refine(bJ (λi=>((i:Int),c.1.take i,c.2.1,([]),c.2.2.2)) c.1.length J (λi b a=>?_) (λb=>?_));simp only[BC];rw[iG,aP a,aj J J];simp only[ae,aa,mF _ (z.1.2 _ (az a))];rw[aU (by simp;omega),<-aM a];rfl;simp only[BC];rw[ga,bB];refine(bJ (λi=>((i:Int),c.1,c.2.1,c.2.2.1.take i,c.2.2.2)) c.2.2.1.length J (λi b a=>?_) (λb=>?_));simp only[BD];rw[iG,aP a,aj J J];simp only[ae,aa,nv _ (z.2.2.1.2 _ (az a)).1.2.2.1];rw[aU (by simp;omega),<-aM a];rfl;simp only[BD];rw[ga,bB];rfl
def yo (h:Host)(f:Filter):Host:=(h.1,h.2.1,h.2.2.1,h.2.2.2.1,h.2.2.2.2.1,h.2.2.2.2.2.1,h.2.2.2.2.2.2.1,f,h.2.2.2.2.2.2.2.2)
def il (c:dv)(a:Int)(m:J6):dv×Int:=
 bif gY c&&dF a 0 ((c.2.2.1.length:Int)-1) then
  (match c.1[a.toNat]?,(lX c.2.2.1 a.toNat m).1[a.toNat]? with
  |some h,I b=>((c.1.set a.toNat (yo h b.1),c.2.1,(lX c.2.2.1 a.toNat m).1,c.2.2.2),(lX c.2.2.1 a.toNat m).2)
  |_,_=>(c, -1))
 else(c, -1)
theorem U0 (c:dv)a(m:J6)(z:cJ 100000000 xz c)(k:Po c):uo c a m=I (il c a m):=by have p:cJ 1000000000 xz c:=z.mono;have r:=z.2.2.1.1;unfold uo il;simp only[uj c p,CD c k,cP,aa,cD];rw[aj J J];cases l:gY c;rfl;cases i:dF a 0 ((c.2.2.1.length)-1);rfl;have q:=Px l;have h:=aR.1 i;obtain⟨n,rfl⟩:=ar h.1;have o:n<c.2.2.1.length:=J;have f:n<c.1.length:=J;have e:=SQ c.2.2.1 n m o J (λb e=>(z.2.2.1.2 b e).1.2.2.1);have j:=Ah c.2.2.1 n m;have g:=HT c.2.2.1 n m J (λb e=>(z.2.2.1.2 b e).1.2.2.1);have d:n<(lX c.2.2.1 n m).1.length:=J;have:=g _ (az d);simp only[ak,ab,bR,ae,e,aa,aP d,aP f,sC (lX c.2.2.1 n m).1[n].1 J,au,ah f,ah d];rfl
theorem Vc (c:dv)a(m:J6)(z:cJ 100000000 xz c)(k:Po c)(i:m.1<=9223372036854775807):uN c a m=I (il c a m):=by
 have t:cJ 1000000000 xz c:=z.mono;have v:=z.2.2.1.1;unfold uN il;simp only[uL c t,F8 c k,aa,cD];have r:(cond (!gY c) O (cond (decide (a<0)) O (decide (a>=(c.2.2.1.length)))))= !(gY c&&dF a 0 ((c.2.2.1.length)-1)):=by
  cases gY c;rfl;simp only[dF,ak,ab,bg];by_cases j:a<0;rw[ax j,aw (J:¬(0<=a))];rfl;rw[aw j,ax (J:(0<=a))];by_cases l:a>=(c.2.2.1.length)
  rw[ax l,ga];rfl;rw[aw l,iG];rfl
 rw[r];cases q:gY c;rfl;cases o:dF a 0 ((c.2.2.1.length)-1);rfl;have u:=Px q;have h:=aR.1 o;obtain⟨n,rfl⟩:=ar h.1;have s:n<c.2.2.1.length:=J;have f:n<c.1.length:=J;have e:=KN c.2.2.1 n m s J (λb e=>(z.2.2.1.2 b e).1.2.2.1) i;have p:=Ah c.2.2.1 n m;have g:=HT c.2.2.1 n m J (λb e=>(z.2.2.1.2 b e).1.2.2.1);have d:n<(lX c.2.2.1 n m).1.length:=J;have:=g _ (az d);simp only[ak,ab,bR,ae,e,aa,aP d,aP f,jJ (lX c.2.2.1 n m).1[n].1 J,au,ah f,ah d];rfl
def oB (h:Host):=h.2.2.2.2.2.2.2.1
theorem arL k h:oB (evS k h)=oB h:=by unfold evS;cases h.2.2.2.2.2.1[k]?<;>rfl
theorem akh (k:Nat)(h:Host):∀i,oB (TV k i h)=oB h
 |0=>rfl
 |i+1=>(arL k _).trans (akh k h i)
theorem ahL h k b f:oB (tY h k b f)=oB h:=(akh k _ _).trans rfl
theorem T0 h x:oB (gn h x)=oB h:=by
 unfold gn;cases eJ h;rfl;cases (cM x).2 !=0;case true=>rfl
 cases !kJ h.2.2.2.2.2.2.2.1 (cM x).1;case true=>rfl
 cases ji h.2.2.2.2.2.2.2.2.1 (h.2.2.2.1.length:Int) (cM x).1== -1;case true=>rfl
 simp only[ak,ab];cases h.2.2.2.1[(ji h.2.2.2.2.2.2.2.2.1 (h.2.2.2.1.length:Int) (cM x).1).toNat]? with|none=>rfl|some q=>exact ahL ..
theorem aac h:oB (jR h)=oB h:=by unfold jR;cases eJ h with|false=>rfl|true=>exact(mf ou h _).oB
theorem WC h:oB (kX h)=oB h:=by unfold kX;cases eJ h with|false=>rfl|true=>exact(mf yn h _).oB
theorem T1 h b:oB (gq h b).1=oB h:=by unfold gq;cases eJ h&&dF b 1 1000 with|false=>rfl|true=>exact(yW b h _).oB
theorem K9 h:oB (cS h)=oB h:=by unfold cS;cases eJ h<;>rfl
theorem apg h p c z:oB (pP h p c z).1=oB h:=by unfold pP;cases eJ h<;>rfl
theorem ahJ h i c:oB (uI h i c).2=oB h:=by unfold uI;rcases h.2.2.2.1[i]? with _|rx;rfl;cases h.2.2.2.2.1[i]? with|none=>rfl|some a=>rfl
theorem TZ (h:Host):∀k,oB (na h k)=oB h
 |0=>rfl
 |k+1=>(ahJ _ k 1000).trans (TZ h k)
theorem K8 (h:Host):∀k,oB (returned h k)=oB h
 |0=>TZ h _
 |k+1=>by have e:returned h (k+1)=Tq h.2.2.1.2.2.1 k (returned h k):=rfl;rw[e];unfold Tq;cases h.2.2.1.2.2.1[k]? with|none=>exact K8 h k|some x=>exact(show oB (akS (returned h k) [x.1])=oB (returned h k) from rfl).trans (K8 h k)
theorem ahK k h:oB (pT k h)=oB h:=by unfold pT;rcases h.2.2.2.1[k]? with _|x;rfl;cases h.2.2.2.2.2.1[k]? with|none=>rfl|some v=>rfl
theorem QL (h:Host):∀k,oB (fW h k)=oB h
 |0=>rfl
 |k+1=>(ahK k _).trans (QL h k)
theorem SJ h:oB (kI h)=oB h:=by unfold kI;cases eJ h with|false=>rfl|true=>exact(QL _ _).trans ((show oB (gM h)=oB (returned h h.2.2.1.2.2.1.length) from rfl).trans (K8 h _))
theorem arK h a:oB (Mx h a).1=oB h:=by
 unfold Mx;cases !eJ h|| !IW a;case true=>rfl
 simp only[ab];cases a.1==0;case true=>exact apg ..
 cases a.1==1;case true=>exact K9 h
 grind[T0,aac,WC,T1,SJ]
def WU (w:dD)(i:Nat):=(w.1[i]?.all Mh)&&Wm (w.1[i]?.map (·.1)) (w.2.2.2.1[i]?.map (·.1))
def Na (w:dD):=((w.1.length:Int)==(w.2.2.2.1.length:Int))&&(((w.2.1.length:Int)==(w.2.2.2.1.length:Int))&&((w.2.2.1.length:Int)==(w.2.2.2.1.length:Int)))
def oQ w:=(cK w.2.2.2.1).2&&(Na w&&(fY w.2.2.1 (cK w.2.2.2.1).1&&((range w.1.length).all (WU w)&&(range w.1.length).all (Ac w.2.2.1))))
structure Vj (w:dD):Prop where
 s0:w.1.length<=10^9
 f0:w.2.2.1.length<=10^9
 m:∀m∈w.2.2.2.1,m.1.2.2.length<=10^9
 s1:∀s∈w.1,s.1.2.2.length<=10^9
 s2:∀s∈w.1,s.2.1.1.length<=10^9
 s3:∀s∈w.1,s.2.1.2.1.length<=10^9
 s4:∀s∈w.1,s.2.1.2.2.2.length<=10^9
theorem Re {w}(h:Na w=O):w.1.length=w.2.2.2.1.length/\w.2.2.1.length=w.2.2.2.1.length:=by grind[Na]
theorem SO {w}i a(b:i<w.2.2.2.1.length):WU w i=(Mh w.1[i]&&Wm w.1[i].1 w.2.2.2.1[i].1):=by grind[WU,K5]
theorem TB w(z:Vj w):zu w=I (oQ w):=by
 have c:=HJ w.2.2.2.1;unfold zu oQ;simp only[qG _ z.m,JV _ _ z.f0 c.1 c.2,aa,cD,cT,bne];rw[show((!((w.1.length:Int)==(w.2.2.2.1.length:Int)))||((!((w.2.1.length:Int)==(w.2.2.2.1.length:Int)))||((!((w.2.2.1.length:Int)==(w.2.2.2.1.length:Int)))|| !fY w.2.2.1 (cK w.2.2.2.1).1)))= !(Na w&&fY w.2.2.1 (cK w.2.2.2.1).1) by grind[Na]];cases (cK w.2.2.2.1).2;rfl;cases d:Na w;rfl;cases fY w.2.2.1 (cK w.2.2.2.1).1;rfl;have g:=Re d;have f:=z.s0;simp only[ak,cq,gB,ab,bg];rw[iK (hit:=some G) (fin:=some O) (λi=>WU w i&&Ac w.2.2.1 i) w.2.2.2.1.length J (λi e b=>?hs) (λe=>?hf)]
 case hs=>
  have q1:i<w.1.length:=J
  have q2:i<w.2.2.1.length:=J
  have a:=az q1
  rw[SO i q1 b]
  simp only[Bi]
  rw[iG,aP q1,aP b,aP q2,aj (n:=(i:Int)+1) J J]
  simp only[ae,aa,agu _ (z.s1 _ a) (z.s2 _ a) (z.s3 _ a) (z.s4 _ a),RS _ _ (z.s1 _ a),cD,cT,bne,Ac,cU q2]
  grind
 case hf=>
  grind[Bi]
 grind
theorem amj w(z:Vj w):GY w=I (oQ w):=by
 have c:=HJ w.2.2.2.1;unfold GY oQ;simp only[FQ _ z.m,JL _ _ z.f0 c.1 c.2,W6 _ z.f0,aa,cD,cT,cF,bne];rw[show((!((w.1.length:Int)==(w.2.2.2.1.length:Int)))||((!((w.2.1.length:Int)==(w.2.2.2.1.length:Int)))|| !((w.2.2.1.length:Int)==(w.2.2.2.1.length:Int))))= !(Na w) by grind[Na]];cases (cK w.2.2.2.1).2;rfl;cases d:Na w;rfl;have g:=Re d;have f:=z.s0;simp only[ak,cq,ab,bg];rw[iK (hit:=some G) (fin:=some (fY w.2.2.1 (cK w.2.2.2.1).1&&(range w.2.2.1.length).all (Ac w.2.2.1))) (WU w) w.1.length J (λi e b=>?hs) (λe=>?hf)]
 case hs=>
  have q1:i<w.2.2.2.1.length:=J
  have a:=az b
  rw[SO i b q1]
  simp only[AU]
  rw[iG,aP b,aP q1,aj (n:=(i:Int)+1) J J]
  simp only[ae,aa,apT _ (z.s1 _ a) (z.s2 _ a) (z.s3 _ a) (z.s4 _ a),Lh _ _ (z.s1 _ a),cD,cT]
  grind
 all_goals grind[AU]
structure rF (ps:List Port):Prop where
 n:ps.length<=10^9
 v:∀p∈ps,p.2.1.length<=10^9
def aeq ps e p:=kH ps&&(di p&&dF e 0 ((ps.length:Int)-1))
def adr (x:Port)(p:bQ):=bif p.2.2.1== -1 then x.2.2.1 else p.2.2.1
def jg ps e p:=
 bif !aeq ps e p then-1 else
 bif !hasB (ps.getD e.toNat ry).2.1 (adr (ps.getD e.toNat ry) p)||((e !=0)&&((ps.getD e.toNat ry).2.2.2&&((ps.getD e.toNat ry).1 !=p.2.1))) then-1 else adr (ps.getD e.toNat ry) p
theorem ajM (h:di p=O):(decide (p.2.2.1<0))=(p.2.2.1== -1):=by grind[di,vn,aR]
theorem P0 ps e p(z:rF ps):sI ps e p=I (jg ps e p):=by have d:=z.n;unfold sI jg aeq;rw[Oc ps d z.v,aa];cases g:kH ps;rfl;rw[pX,aa];cases h:di p;rfl;rw[aj (n:=(ps.length:Int)-1) J J,cP];cases c:dF e 0 ((ps.length:Int)-1);rfl;have b:=aR.1 c;obtain⟨e,rfl⟩:=ar b.1;have a:e<ps.length:=J;have f:=z.v _ (az a);simp only[ak,ab,aa,bR,aP a,au,cU a,Je _ _ f,adr];cases p.2.2.1== -1<;>simp only[ae,ab]<;>cases hasB ps[e].2.1 p.2.2.1<;>cases hasB ps[e].2.1 ps[e].2.2.1<;>cases (e:Int) !=0<;>cases ps[e].2.2.2<;>cases ps[e].1 !=p.2.1<;>rfl
theorem IA ps e p(z:rF ps):pj ps e p=I (jg ps e p):=by have d:=z.n;unfold pj jg aeq;rw[Ow ps d z.v,aa];cases h:kH ps;rfl;rw[tp,aa];cases f:di p;rfl;rw[aj (n:=(ps.length:Int)-1) J J,cz];cases c:dF e 0 ((ps.length:Int)-1);rfl;have b:=aR.1 c;obtain⟨e,rfl⟩:=ar b.1;have a:e<ps.length:=J;have g:=z.v _ (az a);rw[ajM f];simp only[ak,ab,aa,bR,aP a,au,cU a,LH _ _ g,adr];cases p.2.2.1== -1<;>simp only[ae,ab]<;>cases hasB ps[e].2.1 p.2.2.1<;>cases hasB ps[e].2.1 ps[e].2.2.1<;>cases (e:Int) !=0<;>cases ps[e].2.2.2<;>cases ps[e].1 !=p.2.1<;>rfl
def Dg (ps:Z Port)(o v:Int)(p:bQ):bQ:=
 bif kH ps&&(dF o 0 ((ps.length:Int)-1)&&(hasB (ps.getD o.toNat ry).2.1 v&&di p)) then
  (bif v==(ps.getD o.toNat ry).2.2.1 then(p.1,p.2.1, -1,p.2.2.2) else(p.1,p.2.1,v,p.2.2.2)) else pk0
theorem abf ps o v p(z:rF ps):tI ps o v p=I (Dg ps o v p):=by have hn:=z.n;unfold tI Dg;rw[Ow ps hn z.v,aa];cases e:kH ps;rfl;rw[aj (n:=(ps.length:Int)-1) J J,cz];cases c:dF o 0 ((ps.length:Int)-1);rfl;have b:=aR.1 c;obtain⟨o,rfl⟩:=ar b.1;have a:o<ps.length:=J;have d:=z.v _ (az a);simp only[ak,ab,aa,bg,aP a,au,cU a,LH _ _ d,tp];cases hasB ps[o].2.1 v<;>cases di p<;>cases v==ps[o].2.2.1<;>rfl
theorem aml ps o v p(z:rF ps):yC ps o v p=I (Dg ps o v p):=by have hn:=z.n;unfold yC Dg;rw[Oc ps hn z.v,aa];cases e:kH ps;rfl;rw[aj (n:=(ps.length:Int)-1) J J,cP];cases c:dF o 0 ((ps.length:Int)-1);rfl;have b:=aR.1 c;obtain⟨o,rfl⟩:=ar b.1;have a:o<ps.length:=J;have d:=z.v _ (az a);simp only[ak,ab,aa,bg,aP a,au,cU a,Je _ _ d,pX];cases hasB ps[o].2.1 v<;>cases di p<;>cases v==ps[o].2.2.1<;>rfl
def O3 (ps:Z Port)e v(j:Nat):=((j:Int) !=e)&&hasB (ps.getD j ry).2.1 v
def kl (l:gw):=l.map Int.ofNat
def bcB (p:bQ):=p.1==281474976710655
theorem TW {q}(l:gw)i a:(l.take (i+1)).filter q=bif q l[i] then(l.take i).filter q++[l[i]] else(l.take i).filter q:=by grind[aM]
theorem Wt {q}(l:gw)i:((l.take i).filter q).length<=l.length:=bf (List.length_filter_le _ _) (by simp;omega)
theorem W4 ps e v l(o:l.length<=10^9)(f:∀j∈l,j<ps.length)(z:rF ps): aQ (jt (λ(n:dw) (p:Int)=>I n) ps e v (kl l) ((kl l).length:Int)) fuel (([]:dw),0)=I (kl (l.filter (O3 ps e v))):=by
 refine bJ (λi=>(kl ((l.take i).filter (O3 ps e v)),(i:Int))) l.length J (λi m b=>?_) (λm=>?_);have c:=f _ (az b);have h:=z.v _ (az c);have a:i<(kl l).length:=by simpa[kl]using b
 have d:(kl l)[i]'a=(l[i]:Int):=by simp[kl]
 have hf:=Wt (q:=O3 ps e v) l i;simp only[jt];rw[ax (by simpa[kl]using b),aP a,d,aj J J];simp only[ae,aa,aP c,Je _ _ h];rw[TW l i b,O3,cU c];have g:∀k:aS dw,room (List.length (kl ((l.take i).filter (O3 ps e v)))+List.length ([(l[i]:Int)])) k=k:=λk=>aU (by simp only[kl,bt,aO];omega);cases (l[i]:Int) !=e with|false=>rfl|true=>cases hasB ps[l[i]].2.1 v with|false=>rfl|true=>simp only[ae,aa,bR];rw[g];simp[kl]
 simp only[jt];rw[aw (by simp[kl]),bB];rfl
def H8 (ps:Z Port)(p:bQ):Nat->Nat
 |0=>0
 |i+1=>bif (ps.getD (i+1) ry).1==p.1 then i+1 else H8 ps p i
def sm ps e p:=
 (range ps.length).filter λj=>O3 ps e (jg ps e p) j&&((j==H8 ps p (ps.length-1))||bcB p)
def Hx ps e p:=bif decide (jg ps e p<0) then [] else kl (sm ps e p)
theorem Jw ps e p(z:rF ps):nj ps e p=I (Hx ps e p):=by
 have t:=z.n;unfold nj Hx;rw[IA ps e p z,aa];cases hd:decide (jg ps e p<0);case true=>rfl
 have c:kH ps=true:=by cases c:kH ps with|true=>rfl|false=>unfold jg aeq at hd;rw[c]at hd;simp at hd
 have s:1<=ps.length:=by simp only[kH,af,aR]at c;omega
 simp only[ab];refine bJ (λi=>((H8 ps p i:Int),((i+1:Nat):Int))) (ps.length-1) J (λi g a=>?_) (λg=>?_);have h:i+1<ps.length:=J;simp only[qQ];rw[iG,aP h,aj J J,H8,cU h];simp only[ae,aa];cases ps[i+1].1==p.1<;>rfl
 ·simp only[qQ];rw[ga,ab];generalize r:jg ps e p=v;have d:sm ps e p=(range ps.length).filter λj=>O3 ps e v j&&((j==H8 ps p (ps.length-1))||bcB p):=by rw[sm,r]
  rw[d];generalize m:(λj=>O3 ps e v j&&((j==H8 ps p (ps.length-1))||bcB p))=q;refine bJ (λi=>(kl (((range ps.length).take i).filter q),(i:Int))) ps.length J (λi g a=>?_) (λg=>?_)
  ·have f:=z.v _ (az a);have b:i<(range ps.length).length:=by simpa using a
   have l:=Wt (q:=q) (range ps.length) i;simp only[pL];rw[iG,aP a,aj J J];simp only[ae,aa,LH _ _ f];rw[TW (range ps.length) i b,List.getElem_range];have eq:q i=(((i:Int) !=e)&&hasB ps[i].2.1 v&&(((i:Int)==(H8 ps p (ps.length-1):Int))||(p.1==281474976710655))):=by rw[<-m];simp only[O3,cU a,bcB];congr 2;rw[fE,bw,bw];omega
   have o:∀k:aS dw,room (List.length (kl (((range ps.length).take i).filter q))+List.length ([(i:Int)])) k=k:=λk=>aU (by simp only[kl,bt,aO];rw[List.length_range]at l;omega);rw[eq];cases (i:Int) !=e;rfl;cases hasB ps[i].2.1 v;rfl;simp only[ae,aa,bg];cases ((i:Int)==(H8 ps p (ps.length-1):Int))<;>cases p.1==281474976710655<;>simp only[ae,ab,aa,bL,kv,lI]<;>first|rfl|(rw[o];simp[kl])
  simp only[pL];rw[ga,cd aD];rfl
theorem Z8 (q:Nat->Bool):∀l:gw,(K7 q l= -1/\∀j∈l,q j=G)\/∃j∈l,q j=O/\K7 q l=(j:Int)
 |[]=> .inl ⟨rfl,aD⟩
 |j::l=>by rw[K7];cases d:q j with|true=>grind|false=>simp only[ab];rcases Z8 q l with⟨a,b⟩|⟨k,a,b,c⟩;all_goals grind
theorem WT:∀i,(∀j,1<=j->j<=i->((ps.getD j ry).1==p.1)=G)->H8 ps p i=0
 |0,_=>rfl
 |i+1,h=>by rw[H8,h (i+1) J J];exact WT i λj a b=>h j a J
theorem aag (d:1<=k)(h:((ps.getD k ry).1==p.1)=O):∀i,k<=i->(∀j,1<=j->j<=i->((ps.getD j ry).1==p.1)=O->j=k)->H8 ps p i=k
 |0,c,_=>J
 |i+1,c,e=>by rw[H8];by_cases b:k=i+1;rw[<-b,h];rfl;cases g:(ps.getD (i+1) ry).1==p.1 with|true=>grind|false=>exact aag d h i J λj a f=>e j a J
theorem akC (b:kH ps=O){i}(c:1<=i)(a:i<j)(d:j<ps.length):((ps.getD i ry).1==(ps.getD j ry).1)=false:=by simp only[kH,af,aL,bK,XI,aW]at b;grind
theorem filter_one {q n}(f:k<n):(range n).filter (λj=>q j&&(j==k))=[k].filter q:=by
 have a:(range n).filter (λj=>j==k)=[k]:=by
  induction n with
  |zero=>omega
  |succ n e=>
   rw[ja,List.filter_append];by_cases c:k=n;subst c;have:(range k).filter (λj=>j==k)=[]:=by rw[List.filter_eq_nil_iff];intro j d;have:=bK.1 d;simp;omega
   rw[this];simp;rw[e J];have:([n]:gw).filter (λj=>j==k)=[]:=by simp;omega
   rw[this];rfl
 have b:(λj=>q j&&(j==k))=λj=>q j&&(λj=>j==k) j:=rfl;rw[b,<-List.filter_filter,a]
theorem M4 ps e p(z:rF ps):qy ps e p=I (Hx ps e p):=by
 have B:=z.n;unfold qy Hx;rw[P0 ps e p z,aa];cases hd:decide (jg ps e p<0);case true=>rfl
 have l:kH ps=true:=by cases l:kH ps with|true=>rfl|false=>unfold jg aeq at hd;rw[l]at hd;simp at hd
 have E:1<=ps.length/\ps.length<=8:=by simp only[kH,af,aR]at l;omega
 have u:∀j,j<ps.length->(ps.getD j ry).1<=281474976710654:=by intro j o;simp only[kH,af,aL,bK,XI,VA,gu,aR]at l;exact(l.2 j o).1.1.2.1.2
 simp only[ab,ae6 ps p.1 B,aa];generalize C:jg ps e p=v;have w:sm ps e p=(range ps.length).filter λj=>O3 ps e v j&&((j==H8 ps p (ps.length-1))||bcB p):=by rw[sm,C]
 rw[w];have r:bcB p=O->∀j,j<ps.length->((ps.getD j ry).1==p.1)=false:=by
  intro c j o;have:=u j o;have c:p.1=281474976710655:=by simpa[bcB]using c
  rw[c,cc];omega
 rcases Z8 (λj=>(j !=0)&&((ps.getD j ry).1==p.1)) (List.range' 0 ps.length)with⟨s,f⟩|⟨k,A,m,s⟩;have f:∀j,1<=j->j<ps.length->((ps.getD j ry).1==p.1)=false:=by intro j q x;have:=f j (by simp;omega);simp only[Bool.and_eq_false_iff,bne_eq_false_iff_eq]at this;rcases this with h|h;omega;exact h
 have t:H8 ps p (ps.length-1)=0:=WT _ λj q x=>f j q J;rw[s,show decide ((-1:Int)>=0)=G from rfl,ab,t];rw[show(p.1==281474976710655)=bcB p from rfl];cases c:bcB p with|true=>simp only[ae,kv,gB];refine bJ (λi=>(kl (range i),(i:Int))) ps.length J (λi D F=>?_) (λD=>?_);simp only[pD];rw[iG,aU (by simp only[kl,bt,List.length_range,aO];omega),aj J J,ja];simp only[ae,kl,df];rfl;simp only[pD];rw[ga,ab];exact W4 ps e v (range ps.length) (by simp;omega) (λj o=>bK.1 o) z|false=>simp only[ab,Bool.or_false];rw[filter_one J];exact W4 ps e v [0] aD (by simp;omega) z
 have d:k<ps.length:=by simp at A;omega
 simp only[af,bne_iff_ne]at m;have c:bcB p=false:=by cases c:bcB p with|false=>rfl|true=>rw[r c k d]at m;cases m.2
 have t:H8 ps p (ps.length-1)=k:=aag J m.2 _ J λj q x y=>by rcases Nat.lt_trichotomy j k with g|g|g;have:=akC l q g d;have a:=bw.1 y;have b:=bw.1 m.2;rw[a,b]at this;simp at this;exact g;have:=akC l (J:1<=k) g (J:j<ps.length);have a:=bw.1 y;have b:=bw.1 m.2;rw[a,b]at this;simp at this
 rw[s,iG,ae,t,c];simp only[Bool.or_false];rw[filter_one d];exact W4 ps e v [k] aD (by simp;omega) z
theorem Ck {e}:∀j∈sm ps e p,j<ps.length:=λj a=>bK.1 (List.mem_filter.1 a).1
theorem uf ps e p:(sm ps e p).length<=ps.length:=bf (List.length_filter_le _ _) aD
theorem Lw K:rF (cK K).1:=⟨(HJ K).1,(HJ K).2⟩
structure B0 (n:Nat) (c:dv):Prop where
 z:cJ n xz c
 h:∀x∈c.1,Co n x
theorem B0.mono {n m}(k:B0 n c)(hn:n<=m:=by omega):B0 m c:=⟨k.z.mono hn,λx a=>(k.h x a).mono hn⟩
theorem B0.sz {n}(k:B0 n c)(hn:n<=10^9:=by omega):Po c:=by have z:cJ 1000000000 xz c:=k.z.mono hn;exact⟨z.1.1,z.2.1.1,λm a=>(z.2.2.1.2 m a).1.2.2.1,λx b=>(k.h x b).sz hn⟩
theorem B0.of (k:szC xz c<=1048576):B0 1048576 c:=by refine⟨Sb k,λh a=>Co.of ?_⟩;grind[Lr,szC]
theorem ui (h:gY c=O):(cK c.2.2.1).1.length=c.1.length+1/\(cK c.2.2.1).1.length<=8/\c.1.length<=3:=by unfold gY at h;simp only[af]at h;have e:=(Ev h.2.1).1;have a:=h.1;have d:=Us a;unfold cK at a⊢;cases b:dF (c.2.2.1.length:Int) 1 3&&(c.2.2.1.all oZ&&kH (oc c.2.2.1))with|false=>grind|true=>simp only[af]at b;have:=(MS c.2.2.1 0 ([0],[]) ⟨aD,rfl,aD⟩ b.2.1).2.1;grind[oc]
def arf (c:dv)(f:Bytes):dv:=(c.1,c.2.1,c.2.2.1,c.2.2.2.1,c.2.2.2.2.1,c.2.2.2.2.2.1,c.2.2.2.2.2.2++[f])
def X1 (c:dv)(k:Nat)(h:Host):dv:=(c.1.set k h,c.2)
def dM (ps:Z Port)(v:Int)(p:bQ)(c:dv)(j:Nat):=
 bif j==0 then arf c (Ei (Dg ps (j:Int) v p)).1 else
 match c.1[j-1]? with
 |some h=>X1 c (j-1) (gn h (Ei (Dg ps (j:Int) v p)).1)
 |none=>c
theorem RI {n}(z:B0 n c)(a:Co n h):B0 n (X1 c k h):=by refine⟨⟨sW z.z.1 a.z,z.z.2⟩,λx b=>?_⟩;rcases cG b with g|g;exact z.h x g;rw[g];exact a
theorem arh {n f}(z:B0 n c)(hf:f.length<=n):B0 (n+1) (arf c f):=by have a:=z.mono (J:n<=n+1);refine⟨⟨a.z.1,a.z.2.1,a.z.2.2.1,a.z.2.2.2.1,a.z.2.2.2.2.1,a.z.2.2.2.2.2.1,?_⟩,a.h⟩;exact Ks (t:=.str) (k:=1) z.z.2.2.2.2.2.2 (λy b=>by rw[aY.1 b];exact hf) aD
theorem aqZ {n}(hn:1000<=n){v}(z:B0 n c):B0 (n+1) (dM ps v p c j)/\(dM ps v p c j).1.length=c.1.length:=by have hf:=Ej (Dg ps (j:Int) v p);unfold dM;cases j==0 with|true=>exact⟨arh z J,rfl⟩|false=>simp only[ab];cases b:c.1[j-1]? with|none=>exact⟨z.mono,rfl⟩|some h=>have a:=No hn (Ei (Dg ps (j:Int) v p)).1 (z.h h (aF b));exact⟨(RI z a.1).mono,aC ..⟩
def OJ ps v p c(l:gw):=l.foldl (dM ps v p) c
theorem VD {ps:Z Port}{v:Int}{p:bQ}:∀(l:gw){c:dv}{n:Nat},1000<=n->B0 n c->B0 (n+l.length) (OJ ps v p c l)/\(OJ ps v p c l).1.length=c.1.length
 |[],c,n,_,z=>⟨z,rfl⟩
 |j::l,c,n,hn,z=>by have a:=aqZ (ps:=ps) (v:=v) (p:=p) (j:=j) hn z;have:=VD (ps:=ps) (v:=v) (p:=p) l (J:1000<=n+1) a.1;exact⟨this.1.mono gA,this.2.trans a.2⟩
theorem aa3 ps v p c(l:gw)i a:OJ ps v p c (l.take (i+1))=dM ps v p (OJ ps v p c (l.take i)) l[i]:=by rw[aM a,OJ,List.foldl_append];rfl
theorem Ub (K:dv->aS R)ps v p c B l(w:l.length<=8)(r:∀j∈l,j<=c.1.length)(z:B0 800000000 c)(u:rF ps): aQ (oS (λ(_:Int) (k:dv)=>K k) ps v (kl l) ((kl l).length:Int) p B) fuel (0,c)=K (OJ ps v p c l):=by
 refine bJ (λi=>((i:Int),OJ ps v p c (l.take i))) l.length J (λi t e=>?_) (λt=>?_);have b:i<(kl l).length:=by simpa[kl]using e
 have o:(kl l)[i]'b=(l[i]:Int):=by simp[kl]
 have m:=VD (ps:=ps) (v:=v) (p:=p) (l.take i) J z;have a:=m.1.mono (show 800000000+(l.take i).length<=900000000 by rw[bp];omega);have s:=r _ (az e);have f:=Ej (Dg ps (l[i]:Int) v p);rw[aa3 ps v p c l i e];have hn:=m.2;generalize OJ ps v p c (l.take i)=W at hn a⊢;have x:W.2.2.2.2.2.2.length<=900000000:=a.z.2.2.2.2.2.2.1;simp only[oS];rw[ax (by simpa[kl]using e),aP b,o,aj (n:=(i:Int)+1) J J];simp only[ae,aa,aml ps _ v p u,aal,dM];have q:c.1.length<=800000000:=z.z.1.1;by_cases d:l[i]=0;rw[show((l[i]:Int)==0)=O from by simp[d],show(l[i]==0)=O from by simp[d]];simp only[ae];rw[aU (by simp only[aO];omega)];rfl;rw[show((l[i]:Int)==0)=G from by simp[d],show(l[i]==0)=G from by simp[d]];have g:l[i]-1<W.1.length:=J;rw[aj (n:=(l[i]:Int)-1) J J,(J:(l[i]:Int)-1=((l[i]-1:Nat):Int))];simp only[ab,aP g,aa,QZ _ _ (a.h _ (az g)) (bf f J),au,ah g];rfl;simp only[oS];rw[aw (by simp[kl]),ab,bB]
theorem UD (K:dv->aS R)ps v p c l(w:l.length<=8)(r:∀j∈l,j<=c.1.length)(z:B0 800000000 c)(u:rF ps): aQ (qS (λ(_:Int) (k:dv)=>K k) ps (kl l) v p) fuel (0,c)=K (OJ ps v p c l):=by
 refine bJ (λi=>((i:Int),OJ ps v p c (l.take i))) l.length J (λi t e=>?_) (λt=>?_);have b:i<(kl l).length:=by simpa[kl]using e
 have o:(kl l)[i]'b=(l[i]:Int):=by simp[kl]
 have m:=VD (ps:=ps) (v:=v) (p:=p) (l.take i) J z;have a:=m.1.mono (show 800000000+(l.take i).length<=900000000 by rw[bp];omega);have s:=r _ (az e);have f:=Ej (Dg ps (l[i]:Int) v p);rw[aa3 ps v p c l i e];have hn:=m.2;generalize OJ ps v p c (l.take i)=W at hn a⊢;have x:W.2.2.2.2.2.2.length<=900000000:=a.z.2.2.2.2.2.2.1;simp only[qS];rw[ax (by simpa[kl]using e),aP b,o,aj (n:=(i:Int)+1) J J];simp only[ae,aa,abf ps _ v p u,Ou,dM];have q:c.1.length<=800000000:=z.z.1.1;by_cases d:l[i]=0;rw[show((l[i]:Int)==0)=O from by simp[d],show(l[i]==0)=O from by simp[d]];simp only[ae];rw[aU (by simp only[aO];omega)];rfl;rw[show((l[i]:Int)==0)=G from by simp[d],show(l[i]==0)=G from by simp[d]];have g:l[i]-1<W.1.length:=J;rw[aj (n:=(l[i]:Int)-1) J J,(J:(l[i]:Int)-1=((l[i]-1:Nat):Int))];simp only[ab,aP g,aa,R0 _ _ (a.h _ (az g)) (bf f J),au,ah g];rfl;simp only[qS];rw[aw (by simp[kl]),ab,bB]
def nP c e p:=
 bif decide (jg (cK c.2.2.1).1 e p<0) then c else OJ (cK c.2.2.1).1 (jg (cK c.2.2.1).1 e p) p c (sm (cK c.2.2.1).1 e p)
def sk c e p:=bif gY c&&eU p then nP c e p else c
theorem UJ c e p(k:B0 800000000 c)(h:gY c=O):ym c e p=I ((),nP c e p):=by have g:cJ 1000000000 xz c:=k.z.mono;have f:=ui h;have a:=Lw c.2.2.1;unfold ym nP;simp only[qG _ (λm d=>(g.2.2.1.2 m d).1.2.2.1),aa,IA _ e p a,Jw _ e p a];generalize (cK c.2.2.1).1=ps at f a⊢;unfold Hx;cases decide (jg ps e p<0)with|true=>exact UD (λc=>I ((),c)) ps (jg ps e p) p c [] aD aD k a|false=>exact UD (λc=>I ((),c)) ps (jg ps e p) p c (sm ps e p) (by grind[uf]) (λj b=>by have:=Ck j b;omega) k a
theorem X5 c e p(k:B0 800000000 c):Be c e p=I (sk c e p):=by unfold Be sk;simp only[uL c (k.z.mono),F8 c (k.sz),BR,aa];grind[aa,UJ]
theorem MZ c e p(k:B0 800000000 c):vr c e p=I (sk c e p):=by have b:cJ 1000000000 xz c:=k.z.mono;unfold vr sk;simp only[uj c b,CD c (k.sz),Eo,aa];cases h:gY c;rfl;cases eU p;rfl;have g:=ui h;have a:=Lw c.2.2.1;unfold nP;simp only[ak,ab,aa,bR,ae,FQ _ (λm f=>(b.2.2.1.2 m f).1.2.2.1),P0 _ e p a,M4 _ e p a];generalize (cK c.2.2.1).1=ps at g a⊢;unfold Hx;cases decide (jg ps e p<0)with|true=>exact Ub (λc=>I c) ps (jg ps e p) p c _ [] aD aD k a|false=>exact Ub (λc=>I c) ps (jg ps e p) p c _ (sm ps e p) (by grind[uf]) (λj d=>by have:=Ck j d;omega) k a
theorem UN {n}(hn:1000<=n){e}(z:B0 n c)(h:gY c=O):B0 (n+8) (nP c e p)/\(nP c e p).1.length=c.1.length:=by have a:=ui h;unfold nP;generalize (cK c.2.2.1).1=ps at a⊢;cases decide (jg ps e p<0)with|true=>exact⟨z.mono,rfl⟩|false=>have b:=uf ps e p;have:=VD (ps:=ps) (v:=jg ps e p) (p:=p) (sm ps e p) hn z;exact⟨this.1.mono,this.2⟩
def IG (c:dv):dv:=(c.1,c.2.1,c.2.2.1,c.2.2.2.1,c.2.2.2.2.1,c.2.2.2.2.2.1++[c.2.2.2.2.1.1],c.2.2.2.2.2.2)
def qE c x:=bif !gY c then c else bif (cM x).2==0 then nP (IG c) 0 (cM x).1 else IG c
theorem TF {n}(z:B0 n c):B0 (n+1) (IG c):=by have a:=z.mono (J:n<=n+1);refine⟨⟨a.z.1,a.z.2.1,a.z.2.2.1,a.z.2.2.2.1,a.z.2.2.2.2.1,?_,a.z.2.2.2.2.2.2⟩,a.h⟩;exact Ks (t:=.int .i64) (k:=1) z.z.2.2.2.2.2.1 (λ_ _=>trivial) aD
theorem acS {x}(h:((cM x).2==0)=O):eU (cM x).1=true:=by grind[cM]
theorem U2 c x(k:B0 700000000 c)(d:x.length<=10^9):yw c x=I (qE c x):=by have a:c.2.2.2.2.2.1.length<=700000000:=k.z.2.2.2.2.2.1.1;have e:=(TF k).mono (J:700000000+1<=800000000);unfold yw qE;rw[uj c (k.z.mono),aa,CD c (k.sz),aa];cases h:gY c;rfl;have b:gY (IG c)=true:=h;grind[aU,SW,aa,cM,MZ,IG,sk]
theorem Vd c x(k:B0 700000000 c)(d:x.length<=10^9):zb c x=I (qE c x):=by have a:c.2.2.2.2.2.1.length<=700000000:=k.z.2.2.2.2.2.1.1;have e:=(TF k).mono (J:700000000+1<=800000000);unfold zb qE;rw[uL c (k.z.mono),aa,F8 c (k.sz),aa];cases h:gY c;rfl;have b:gY (IG c)=true:=h;grind[aU,EI,aa,UJ,IG]
theorem afS {n}(hn:1000<=n)x(z:B0 n c):B0 (n+9) (qE c x)/\(qE c x).1.length=c.1.length:=by unfold qE;cases h:gY c;exact⟨z.mono,rfl⟩;have zs:=TF z;simp only[ak,ab];cases (cM x).2==0 with|true=>have:=UN (J:1000<=n+1) (e:=0) (p:=(cM x).1) zs (show gY (IG c)=O from h);exact⟨this.1,this.2⟩|false=>exact⟨zs.mono,rfl⟩
theorem ajN {n}(hn:1000<=n)e p(z:B0 n c):B0 (n+8) (sk c e p)/\(sk c e p).1.length=c.1.length:=by unfold sk;cases h:gY c;exact⟨z.mono,rfl⟩;cases eU p with|false=>exact⟨z.mono,rfl⟩|true=>exact UN hn z h
def JY b n:=bif mr b&&dF n 0 b.2.2 then((b.1,b.2.1,V (b.2.2-n)),O) else(b,G)
theorem anX (b:J6)n:zF b n=I (JY b n):=by grind[zF,JY,Iy,aa,cz]
theorem amt (b:J6)n:yH b n=I (JY b n):=by grind[yH,JY,PX,aa,cP]
def Wj (f:bc):bc:=(f.1,f.2.1,f.2.2.1,f.2.2.2.1,f.2.2.2.2.1,V (f.2.2.2.2.2+1))
def as6 (f:bc)(b:J6):bc:=(f.1,f.2.1,b,f.2.2.2.1,V (f.2.2.2.2.1+1),f.2.2.2.2.2)
def asb ps(f:bc)p:=f.2.2.2.1&&(!decide (jg ps f.2.1 p<0)&&(JY f.2.2.1 ((dE p).1.length:Int)).2)
def ox (l:Z bc)(ps:Z Port)(a:Int)(p:bQ):Z bc×dw×Bool:=
 bif fY l ps&&(eU p&&(!decide (a<0)&& !decide (a>=(l.length:Int)))) then
  match l[a.toNat]? with
  |some f=>bif asb ps f p then(l.set a.toNat (as6 f (JY f.2.2.1 ((dE p).1.length:Int)).1),Hx ps f.2.1 p,O) else(l.set a.toNat (Wj f),[],G)
  |none=>(l,[],G)
 else(l,[],G)
theorem abj l ps a p(h:l.length<=10^9)(z:rF ps):AH l ps a p=I (ox l ps a p):=by
 unfold AH ox;rw[aU gA];simp only[bF,JV l ps h z.1 z.2,BR,aa];cases fY l ps;rfl;cases eU p;rfl;by_cases c:a<0;rw[ax c];rfl;by_cases d:a>=(l.length:Int)
 simp_all;obtain⟨a,rfl⟩:=ar (by omega:0<=a);have b:a<l.length:=J;rw[aw c,aw d];simp only[au,ah b,aP b,aa,ak,bS,ab,ae,bR,KO,anX,IA _ _ p z,Jw _ _ p z,asb];generalize l[a]=f;cases e:f.2.2.2.1 with|false=>grind[aa,Wj]|true=>simp only[ak,ab,bg,Ob b,aa,List.set_set];cases decide (jg ps f.2.1 p<0)with|true=>grind[aa,Wj]|false=>simp only[bS,ab,bg,aa];cases (JY f.2.2.1 ((dE p).1.length:Int)).2 with|false=>grind[Wj]|true=>rfl
theorem amr l ps a p(h:l.length<=10^9)(z:rF ps):Fb l ps a p=I (ox l ps a p):=by
 unfold Fb ox;rw[CE l h,aa,aj (n:=(l.length:Int)-1) J J];simp only[JL l ps h z.1 z.2,Eo,aa,cP];cases fY l ps;rfl;cases eU p;rfl;rw[show dF a 0 ((l.length:Int)-1)=(!decide (a<0)&& !decide (a>=(l.length:Int))) from by grind[aR]];by_cases c:a<0;rw[ax c];rfl;by_cases d:a>=(l.length:Int)
 simp_all;obtain⟨a,rfl⟩:=ar (by omega:0<=a);have b:a<l.length:=J;rw[aw c,aw d];simp only[au,ah b,aP b,aa,ak,bS,ab,ae,bR,Km,amt,P0 _ _ p z,M4 _ _ p z,asb];generalize l[a]=f;cases e:f.2.2.2.1 with|false=>grind[aa,Wj]|true=>simp only[ak,ab,bg,Ob b,aa,List.set_set];cases decide (jg ps f.2.1 p<0)with|true=>grind[aa,Wj]|false=>simp only[bS,ab,bg,aa,M4 _ _ p z];cases (JY f.2.2.1 ((dE p).1.length:Int)).2 with|false=>grind[Wj]|true=>grind[as6]
theorem KK l ps a p:(ox l ps a p).1.length=l.length:=by unfold ox;grind
theorem af3 {a}(h:eU p=G):ox l ps a p=(l,[],G):=by grind[ox]
theorem atV:eU pk0=false:=eR
theorem afR {x}(h:((cM x).2==0)=G):eU (cM x).1=false:=by grind[cM,atV]
def NN (h:Host):=h.2.2.2.2.2.2.2.2.2.2.2.1
theorem TK h:(NN h).length<=(NN (cS h)).length/\(NN (cS h)).length<=(NN h).length+5440:=by have a:=HO h.2.1 h.1 0 17 [] 0 0 h.2.2.1.1 (λx b=>by cases b);unfold cS;cases eJ h;exact⟨bq _,Nat.le_add_right _ _⟩;rw[show lQ h.2.1 h.1 0 17 [] 0 0 h.2.2.1.1=mh h.2.1 h.1 0 h.2.2.1.1 from rfl]at a;simp_all[NN]
def Ng h:=(NN (cS h)).drop (NN h).length
theorem Kz h:(Ng h).length<=5440:=by grind[TK,Ng]
def F7 ps k(c:dv)x:=
 bif (ox c.2.1 ps k (cM x).1).2.2 then sk (c.1,(ox c.2.1 ps k (cM x).1).1,c.2.2) (V (k+1)) (cM x).1 else(c.1,(ox c.2.1 ps k (cM x).1).1,c.2.2)
theorem ac2 {n}(h:l.length=c.2.1.length)(z:B0 n c):B0 n (c.1,l,c.2.2):=by refine⟨⟨z.z.1,⟨?_,λ_ _=>⟨B,B,⟨B,B,B⟩,B,B,B⟩⟩,z.z.2.2⟩,z.h⟩;have:=z.z.2.1.1;grind
theorem aqJ {n}(hn:1000<=n){k x}(z:B0 n c):B0 (n+8) (F7 ps k c x)/\(F7 ps k c x).1.length=c.1.length:=by have zs:=ac2 (l:=(ox c.2.1 ps k (cM x).1).1) (KK ..) z;unfold F7;cases (ox c.2.1 ps k (cM x).1).2.2 with|false=>exact⟨zs.mono,rfl⟩|true=>exact ajN hn _ _ zs
theorem af2 {k x}(h:((cM x).2==0)=G):F7 ps k c x=c:=by grind[F7,af3,afR]
def Iw ps k c(l:cL):=l.foldl (F7 ps k) c
theorem RF {ps:Z Port}{k:Int}:∀(l:cL){c:dv}{n:Nat},1000<=n->B0 n c->B0 (n+8*l.length) (Iw ps k c l)/\(Iw ps k c l).1.length=c.1.length
 |[],c,n,_,z=>⟨z,rfl⟩
 |x::l,c,n,hn,z=>by have a:=aqJ hn (ps:=ps) (k:=k) (x:=x) z;have:=RF (ps:=ps) (k:=k) l (J:1000<=n+8) a.1;exact⟨this.1.mono gA,this.2.trans a.2⟩
theorem XZ ps k c(l:cL)i a:Iw ps k c (l.take (i+1))=F7 ps k (Iw ps k c (l.take i)) l[i]:=by rw[aM a,Iw,List.foldl_append];rfl
theorem aeO (K:Int->dv->aS R)ps k l c B(j:l.length<=5440)(f:∀x∈l,x.length<=10^9)(z:B0 700000000 c)(h:rF ps): aQ (mM K k ps l (l.length:Int) B) fuel (0,c)=K (l.length:Int) (Iw ps k c l):=by
 have e:=dB;refine bJ (λi=>((i:Int),Iw ps k c (l.take i))) l.length J (λi g b=>?_) (λg=>?_);have d:=(RF (ps:=ps) (k:=k) (l.take i) J z).1.mono (show 700000000+8*(l.take i).length<=800000000 by rw[bp];omega);rw[XZ ps k c l i b];generalize Iw ps k c (l.take i)=W at d⊢;simp only[mM];rw[iG,ae,aP b,aa,SW _ (f _ (az b)),aa,aj (n:=(i:Int)+1) J J];cases a:(cM l[i]).2==0 with|false=>rw[af2 a];simp only[bne,a,bS,ae];rfl|true=>have zs:=ac2 (l:=(ox W.2.1 ps k (cM l[i]).1).1) (KK ..) d;simp only[bne,a,ak,ab];rw[amr _ _ _ _ (bf d.z.2.1.1 J) h,aa,MZ _ _ _ zs,aa,F7];cases (ox W.2.1 ps k (cM l[i]).1).2.2<;>rfl
 simp only[mM];rw[ga,ab,bB]
theorem agb (K:Int->dv->aS R)ps k l c B(h:l.length<=5440)(e:∀x∈l,x.length<=10^9)(z:B0 700000000 c)(g:rF ps): aQ (mS K k l ps B) fuel (0,c)=K (l.length:Int) (Iw ps k c l):=by have d:=dB;refine bJ (λi=>((i:Int),Iw ps k c (l.take i))) l.length J (λi f a=>?_) (λf=>?_);have b:=(RF (ps:=ps) (k:=k) (l.take i) J z).1.mono (show 700000000+8*(l.take i).length<=800000000 by rw[bp];omega);rw[XZ ps k c l i a];generalize Iw ps k c (l.take i)=W at b⊢;have zs:=ac2 (l:=(ox W.2.1 ps k (cM l[i]).1).1) (KK ..) b;simp only[mS];rw[iG,ae,aP a,aa,EI _ (e _ (az a)),aa,aj (n:=(i:Int)+1) J J,abj _ _ _ _ (bf b.z.2.1.1 J) g,aa,X5 _ _ _ zs,aa,F7];cases (ox W.2.1 ps k (cM l[i]).1).2.2<;>rfl;simp only[mS];rw[ga,ab,bB]
def wG (c:dv)(k:Int):dv:=
 bif gY c&&(!decide (k<0)&& !decide (k>=(c.1.length:Int))) then
  match c.1[k.toNat]? with
  |some h=>Iw (cK c.2.2.1).1 k (X1 c k.toNat (cS h)) (Ng h)
  |none=>c
 else c
theorem ah0 c k(z:B0 600000000 c):wI c k=I (wG c k):=by
 have e:cJ 1000000000 xz c:=z.z.mono;have q:c.2.1.length<=600000000:=z.z.2.1.1;unfold wI wG;rw[uj c e,aa,CD c (z.sz),aa,cP,aj (n:=(c.2.1.length:Int)-1) J J];cases p:gY c;rfl;have o:c.1.length=c.2.1.length:=by grind[gY,Ev]
 rw[show dF k 0 ((c.2.1.length:Int)-1)=(!decide (k<0)&& !decide (k>=(c.1.length:Int))) from by grind[aR]];by_cases b:k<0;rw[ax b];rfl;by_cases g:k>=(c.1.length:Int)
 simp_all;obtain⟨k,rfl⟩:=ar (by omega:0<=k);have a:k<c.1.length:=J;rw[aw b,aw g];have d:=z.h _ (az a);have f:=Hz J d;have t:B0 700000000 (X1 c k (cS c.1[k])):=(RI (z.mono (J:600000000<=600005440)) f).mono;have i:=TK c.1[k];have s:∀x∈Ng c.1[k],x.length<=10^9:=λx l=>bf (f.z.2.2.2.2.2.2.2.2.2.2.2.1.2 x (List.mem_of_mem_drop l)) J;have r:=Kz c.1[k];have u:=Lw c.2.2.1;simp only[au,ah a,aP a,Ob a,aa,ak,bS,ab,ae,bR,FQ _ (λm j=>(e.2.2.1.2 m j).1.2.2.1),Q3 _ (d.mono)];rw[show sub (cS c.1[k]).2.2.2.2.2.2.2.2.2.2.2.1 ((c.1[k].2.2.2.2.2.2.2.2.2.2.2.1).length:Int) (((cS c.1[k]).2.2.2.2.2.2.2.2.2.2.2.1).length:Int)=I (Ng c.1[k]) from KR _ _ i.1];grind[aa,pW,aeO,X1]
theorem ajl c k(z:B0 600000000 c):xc c k=I (wG c k):=by
 have e:cJ 1000000000 xz c:=z.z.mono;unfold xc wG;rw[uL c e,aa,F8 c (z.sz),aa];cases n:gY c;rfl;by_cases b:k<0;rw[ax b];rfl;by_cases g:k>=(c.1.length:Int)
 simp_all;obtain⟨k,rfl⟩:=ar (by omega:0<=k);have a:k<c.1.length:=J;rw[aw b,aw g];have d:=z.h _ (az a);have f:=Hz J d;have q:B0 700000000 (X1 c k (cS c.1[k])):=(RI (z.mono (J:600000000<=600005440)) f).mono;have i:=TK c.1[k];have p:∀x∈Ng c.1[k],x.length<=10^9:=λx l=>bf (f.z.2.2.2.2.2.2.2.2.2.2.2.1.2 x (List.mem_of_mem_drop l)) J;have o:=Kz c.1[k];have r:=Lw c.2.2.1;simp only[au,ah a,aP a,Ob a,aa,ak,bS,ab,ae,bR,qG _ (λm j=>(e.2.2.1.2 m j).1.2.2.1),R3 _ (d.mono)];rw[show sub (cS c.1[k]).2.2.2.2.2.2.2.2.2.2.2.1 ((c.1[k].2.2.2.2.2.2.2.2.2.2.2.1).length:Int) (((cS c.1[k]).2.2.2.2.2.2.2.2.2.2.2.1).length:Int)=I (Ng c.1[k]) from KR _ _ i.1];grind[aa,aU,agb,X1]
theorem ahn {n}(hn:1000<=n)k(z:B0 n c):B0 (n+48960) (wG c k)/\(wG c k).1.length=c.1.length:=by unfold wG;cases gY c&&(!decide (k<0)&& !decide (k>=(c.1.length:Int)));exact⟨z.mono,rfl⟩;simp only[ae];cases a:c.1[k.toNat]? with|none=>exact⟨z.mono,rfl⟩|some h=>have d:=Hz J (z.h h (aF a));have b:=RI (k:=k.toNat) (z.mono (J:n<=n+5440)) d;have:=RF (ps:=(cK c.2.2.1).1) (k:=k) (Ng h) J b;have e:=Kz h;refine⟨this.1.mono,this.2.trans ?_⟩;show(c.1.set _ _).length=_;rw[aC]
structure HS (h:Host) (s:JE) (q:List Bytes):Prop where
 live:Live Qp h
 one:h.2.2.2.1.length=1
 wire:Cr (kR h++q) h
 oB:s.1=oB h
 Mo:s.2.1=TH h
 que:s.2.2.1=1
 flow:oL (λ_=>0) (λ_=>0) (jI s.2.2.2.1) h
theorem an6 {a:jx}(h:ji a ((1:Nat):Int) p≠ -1):(ji a ((1:Nat):Int) p).toNat=0:=by rcases OD (s:=a) (q:=((1:Nat):Int)) (p:=p)with e|⟨k,e,b⟩;exact absurd e h;rw[e];omega
theorem HS.as9 {n:Int}{q:cL}(k:HS h s q)(g:Good n h):Mh s=true:=by
 have e:s.2.2.1=(h.2.2.2.1.length:Int):=by rw[k.one];exact k.que
 unfold Mh;rw[k.oB,k.Mo,e,af];exact⟨g.oB,g.Mo⟩
theorem HS.jY {q b:cL}(k:HS h s q)(l:Live Qp h')(a:Af h h')(w:Cr (kR h'++b) h')(f:oL (λ_=>0) (λ_=>0) (jI s.2.2.2.1) h'):HS h' s b:=⟨l,a.len.trans k.one,w,k.oB.trans a.oB.symm,k.Mo.trans a.Mo.symm,k.que,f⟩
theorem ahV {n:Int}(hn:n<=400000000000){q:cL}(g:Good n h)(k:HS h s q)(y:Bytes):HS (gn h y) (Is s y) q:=by
 have a:=acd hn g k.live (qf:=λ_=>0) k.flow y λ_ hs=>by rw[k.one]at hs⊢;exact an6 hs
 have c:=Y5 h y;have lw:=Uh hn g k.live y;have w:Cr (kR (gn h y)++q) (gn h y):=by rw[lw.2.1];exact ZB hn g k.live k.wire y
 have d:Yu s y=(((cM y).2==0)&&(kJ (oB h) (cM y).1&&(ji (TH h) (h.2.2.2.1.length:Int) (cM y).1 != -1))):=by unfold Yu;rw[k.as9 g,k.oB,k.Mo,k.que,k.one];rfl
 have a:oL (λ_=>0) (λ_=>0) (akY (oB h) (TH h) (h.2.2.2.1.length:Int) (jI s.2.2.2.1) y) (gn h y):=a;have l:=acC hn g k.live y;unfold akY at a;unfold Is;rw[d];cases b:(((cM y).2==0)&&(kJ (oB h) (cM y).1&&(ji (TH h) (h.2.2.2.1.length:Int) (cM y).1 != -1)))with
 |false=>rw[b]at a;exact k.jY l c w a
 |true=>
  rw[b]at a;simp only[af]at b;have pk:=XO b.1;have sup:di (cM y).1=true:=by simp only[eU,af]at pk;exact pk.1
  have e:(λf=>IL f (jI s.2.2.2.1 f) (cM y).1)=jI (jX s.2.2.2.1 (cM y).1):=funext λf=>(aaD sup _ f).symm;have a:oL (λ_=>0) (λ_=>0) (λf=>IL f (jI s.2.2.2.1 f) (cM y).1) (gn h y):=a;rw[e]at a;exact⟨l,c.len.trans k.one,w,k.oB.trans c.oB.symm,k.Mo.trans c.Mo.symm,k.que,a⟩
theorem aon (h:Host)(p:bQ)(c z:Int):kR (pP h p c z).1=kR h:=by unfold pP;cases eJ h<;>rfl
theorem arU {n:Int}{q:cL}(g:Good n h)(k:HS h s q)(p:bQ)(c z:Int):HS (pP h p c z).1 s (q++bif (pP h p c z).2 then GI p c else []):=by have w:=ajR g k.live k.wire p c z;refine k.jY (amN g k.live p c z) (ais h p c z) ?_ (alW g k.live k.flow p c z);rw[aon,<-aH];exact w
theorem aeE {n:Int}(hn:n<=1000000000000){q:cL}(g:Good n h)(k:HS h s q):HS (cS h) s []/\Ng h=q:=by obtain⟨w,e⟩:=YB hn g k.live k.wire;refine⟨k.jY (Za hn g k.live).1 (Xe h) (by rw[bm,e];exact w) (YU hn g k.flow),?_⟩;unfold Ng;rw[show NN (cS h)=kR h++q from e];exact List.drop_left
theorem aeC {n:Int}(hn:n<=400000000000){q:cL}(g:Good n h)(k:HS h s q):HS (jR h) s q:=k.jY ((Xk hn g k.live).D7 λ_ _ _ _ _ _ _=>trivial) (ae9 h) (by rw[YC];exact agS hn g k.live k.wire) (ahI hn g k.live k.flow)
theorem akl {n:Int}(hn:n<=1000000000000){q:cL}(g:Good n h)(k:HS h s q):HS (kX h) s q:=k.jY (aaA hn g k.live λ_ _ _ _ _ _ _ _ _ _=>trivial) (ait h) (by rw[abH];exact ajS k.wire) (alX hn g k.flow)
theorem WX {n:Int}(hn:n<=1000000000000){q:cL}(g:Good n h)(k:HS h s q)(b:Int):HS (gq h b).1 s q:=k.jY (Y9 hn g k.live b) (Y6 h b) (by rw[Sm];exact ZC hn g k.live k.wire b) (ace hn g k.live k.flow b)
theorem al7 {q:cL}(k:HS h s q)(f:Filter):HS (yo h f) (f,s.2) q:=by obtain⟨⟨c,d,e,g⟩,k2,k3,_,k5,a,b⟩:=k;exact⟨⟨c,d,e,g⟩,k2,k3,rfl,k5,a,b⟩
theorem arS {n:Int}(hn:n<=300000000000){q:cL}(g:Good n h)(k:HS h s q)(c r:Nat):HS (BJ (c:Int) r (jR h)) s q:=by induction r with|zero=>exact aeC J g k|succ r a=>exact WX J (Kj (B9 _ (H5 J g) r)) (akl J (B9 _ (H5 J g) r) a) _
theorem aiZ {n:Int}(hn:n<=1000000000000){w:cL}(g:Good n h)(k:HS h s w):∃(q:dq)(D:Z CW),h.2.2.2.1[0]?=I q/\(gE h).2.2.2.1[0]?.map (λx=>x.2.2.2)=I q.2.2.2/\IK (gE h)=(D.map (·.2)).foldl jX (IK h)/\TH (gE h)=TH h/\(∀v∈vE D q,di v=O)/\0<=q.2.2.2.2.2/\(0<q.2.2.2.2.2\/∀f,Gm f (jI (IK h) f) (vE D q)=jI s.2.2.2.1 f):=by
 have d:=k.one;obtain⟨q,p,D,d1,d2,d3,d4⟩:=k.flow 0 J;have m:=(g.rx q (aF d1)).rx hn;obtain⟨a,_⟩:=aA.1 d1;have i:D.length<=1000:=by obtain⟨⟨hd,x,P,F,s⟩,_⟩:=d3;have:=s.len;simp only[bt]at this;omega
 obtain⟨_,c,l⟩:=afE k.live.mem J d3 m (IK h) (b:=1000);rw[cd i]at c;have e:gE h=(uI h 0 1000).2:=by unfold gE;rw[d];rfl
 refine⟨q,D,d1,?_,?_,?_,λv j=>(d4.1 v j).1,d4.2.1,?_⟩;rw[e];unfold uI;simp only[d1,d2,k.live.maps];rw[bn a];exact congrArg I l;rw[e];unfold uI;simp only[d1,d2,k.live.maps];exact c;rw[e];unfold uI;simp only[d1,d2];rfl;rcases d4.2.2 with e|e;exact Or.inl e;exact Or.inr λf=>e f rfl
theorem aeD {n:Int}(hn:n<=500000000000){w:cL}(g:Good n h)(k:HS h s w):HS (kI h) s []:=by
 have u:=k.one;have r:=anA J g k.live;obtain⟨q,D,q1,q2,q3,qs,q4,q5,q6⟩:=aiZ J g k;have c:=(JT h h.2.2.1.2.2.1.length).e;have o:=(Nj h h.2.2.2.1.length).1;have N:gE h=na h h.2.2.2.1.length:=rfl;rw[<-N]at o;have a:gM h=Sh (returned h h.2.2.1.2.2.1.length):=rfl;have i:kI h=pT 0 (gM h):=by unfold kI;rw[g.ok J,u];rfl
 obtain⟨Q,p,v,b,g1,g2,U,g4,_⟩:=k.live.rx 0 J;have m:∃x,(gE h).2.2.2.1[0]?=I x/\x.2.2.2=q.2.2.2:=by cases m:(gE h).2.2.2.1[0]? with|none=>rw[m]at q2;cases q2|some x=>rw[m]at q2;exact⟨x,rfl,bu q2⟩
 obtain⟨x,x1,x2⟩:=m;have xv:(gE h).2.2.2.2.2.1[0]?=I v:=by rw[o.vec];exact U
 generalize returned h h.2.2.1.2.2.1.length=R at c a;have d:(gM h).2.2.2.1[0]?=I x:=by rw[a,c];exact x1
 have l:(gM h).2.2.2.2.2.1[0]?=I v:=by rw[a,c];exact xv
 have P:IK (gM h)=IK (gE h):=by rw[a,c];rfl
 have S:TH (gM h)=TH (gE h):=by rw[a,c];rfl
 have T:(gM h).2.2.1.2.2.1=[]:=by rw[a];rfl
 obtain⟨xl,_⟩:=aA.1 d;have rx:(kI h).2.2.2.1.length=1/\∃y,(kI h).2.2.2.1[0]?=I y/\y.2.2.2.2.2=HU x:=by
  have l1:(kI h).2.2.2.1.length=(gM h).2.2.2.1.length:=by rw[i];exact(Uw 0 (gM h)).rx
  have l2:(gM h).2.2.2.1.length=1:=by
   have:(gM h).2.2.2.1=(gE h).2.2.2.1:=by rw[a,c];rfl
   rw[this,o.rx,u]
  refine⟨l1.trans l2,?_⟩;rw[i];unfold pT;simp only[d,l];exact⟨_,bn xl,rfl⟩
 have st:IK (kI h)=(D.map (·.2)).foldl jX (IK h):=by rw[<-q3,<-P,i];unfold pT;simp only[d,l];rfl
 have ss:TH (kI h)=TH h:=by rw[<-qs,<-S,i];unfold pT;simp only[d,l];rfl
 have wt:(kI h).2.2.1.2.2.1=[]:=by rw[<-T,i];unfold pT;simp only[d,l]
 obtain⟨r1,y,A,C⟩:=rx;refine⟨r.D7 λ_ _ _ _ _ _ _=>trivial,r1,?_,k.oB.trans (SJ h).symm,k.Mo.trans ss.symm,k.que,λj Y=>?_⟩;obtain⟨hd,L,t⟩:=r.tx;have V:L=[]:=List.length_eq_zero_iff.1 (t.Gy.trans (by rw[wt];rfl));subst V;rw[bm];exact abG ⟨hd,t⟩ wt;obtain rfl:j=0:=J;have z:=g.rx q (aF q1);have hd:=z.drop;have M:q.2.2.2.2.1=G/\HU x=q.2.2.2.2.2\/0<HU x:=by unfold HU;rw[x2];cases X:q.2.2.2.2.1 with|false=>exact Or.inl ⟨rfl,rfl⟩|true=>have hs:=z.held X;refine Or.inr ?_;rw[ae,aj J J];omega
 obtain⟨q',p',E,d1,d2,d3,d4⟩:=aeg r (λ_=>0) (B:=λ_=>0) (λj q Z=>by have:=(PU J g).rx q (aF Z);exact this.drop.1) 0 Y;rw[A]at d1;have d1:=bu d1;subst d1;refine⟨y,p',E,A,d2,d3,d4.1,d4.2.1,?_⟩;rcases d4.2.2 with e|e;exact Or.inl e;rcases M with⟨H,F⟩|K;rcases q6 with p|p;exact Or.inl (by rw[C,F];exact p);refine Or.inr λf hf=>(e f hf).trans ?_;rw[<-p f,st];unfold vE Ak at q4⊢;rw[H]at q4⊢;simp only[ab,bm]at q4⊢;exact S4 _ _ _ q4;exact Or.inl (by rw[C];exact K)
structure gx (n:Int) (c:dv):Prop where
 Dl:(cK c.2.2.1).2=O
 len:c.1.length=c.2.2.1.length/\c.2.1.length=c.2.2.1.length
 fns:fY c.2.1 (cK c.2.2.1).1=O
 Sv:¬jG c.2.2.2.1<0
 clock:wA c.2.2.2.2.1=O
 host:∀(i:Nat)(h:Host)(b:dY),c.1[i]?=I h->c.2.2.1[i]?=I b->Good n h/\h.2.2.2.2.2.2.2.1=b.1
 place:∀i,i<c.1.length->Ac c.2.1 i=O
 YN:∀b∈c.2.2.1,b.2.1<=n/\b.2.2.2<=n
 fnn:∀f∈c.2.1,f.2.2.2.2.1<=n/\f.2.2.2.2.2<=n
theorem gx.mono {n m}(g:gx n c)(h:n<=m:=by omega):gx m c:=⟨g.Dl,g.len,g.fns,g.Sv,g.clock,λi a b d e=>⟨(g.host i a b d e).1.mono h,(g.host i a b d e).2⟩,g.place,λb j=>⟨by have:=(g.YN b j).1;omega,by have:=(g.YN b j).2;omega⟩,λf hf=>⟨by have:=(g.fnn f hf).1;omega,by have:=(g.fnn f hf).2;omega⟩⟩
theorem gx.ok {n}(g:gx n c)(hn:n<=1000000000000):gY c=true:=by
 unfold gY;rw[g.Dl,g.fns,g.clock,aw g.Sv];simp only[bS,bg];rw[af,af,aL,aL];refine⟨?_,?_,?_⟩;unfold O4;rw[g.len.1,g.len.2];simp;intro i a;have a:=bK.1 a;have b:i<c.2.2.1.length:=by have:=g.len.1;omega
 rw[K1 i a b];have q:=g.host i _ _ (ah a) (ah b);rw[q.1.ok hn,MI q.2];rfl;intro i a;exact g.place i (bK.1 a)
theorem abt:∀(K:Z dY)(s:dw×Z Port),(K.foldl Mk s).2.length=s.2.length+K.length
 |[],s=>rfl
 |m::K,s=>by rw[List.foldl_cons,abt K];show(s.2++[_]).length+_=_;grind
theorem EC (h:(cK K).2=O):(cK K).1=oc K/\(oc K).length=K.length+1/\kH (oc K)=O/\(∀m∈K,oZ m=O)/\1<=K.length/\K.length<=3:=by unfold cK at h⊢;cases a:dF (K.length:Int) 1 3&&(K.all oZ&&kH (oc K))with|false=>grind|true=>simp only[af,aR,aL]at a;refine⟨rfl,?_,a.2.2,a.2.1,J,J⟩;unfold oc;rw[bj,abt];simp
theorem aet {n}(g:Good n h){f}(hf:gu f=O):Good n (yo h f):=⟨g.mem,g.maps,g.tx,hf,g.lens,g.Mo,g.rx,g.pool,g.vec,g.Gy⟩
def auX (s:dw×Z Port)(f:Filter):=(f.2.2.foldl Ea s.1,s.2++[(f.1,f.2.2.foldl Ea [0],0,O)])
theorem ajE (K:Z dY)s:K.foldl Mk s=(K.map (·.1)).foldl auX s:=by rw[List.foldl_map];rfl
theorem afH {a}(h:K.map (·.1)=a.map (·.1)):oc K=oc a:=by grind[oc,ajE]
theorem ass {b a}(c:K[k]?=I b)(h:a.1=b.1):(K.set k a).map (·.1)=K.map (·.1):=by grind[List.map_set,List.set_getElem_self]
theorem ai2 (h:(cK K).2=O){b a}(c:K[k]?=I b)(hf:a.1=b.1)(d:oZ a=O):(cK (K.set k a)).2=true:=by grind[cK,afH,ass]
theorem ahh (h:(cK K).2=O){b}(d:K[k]?=I b){m}(f:m.1=b.2.1+1){n}(hn:b.2.1<=n/\b.2.2.2<=n)(g:n<=100000000000):∃a,lX K k m=(K.set k a,a.2.2.1)/\a.2.1=m.1/\a.2.2.2=b.2.2.2+1/\(cK (K.set k a)).2=true:=by
 have p:=EC h;have c:oZ b=true:=p.2.2.2.1 b (aF d);have j:=Xm c;have e:pz b m=(((nD b.1 m).1,m.1,(nD b.1 m).2,b.2.2.2+1),(nD b.1 m).2):=by unfold pz;rw[c,ae,show(m.1==b.2.1)=G from by rw[cc];omega,ab,show(m.1==b.2.1+1)=O from by rw[bw];exact f,ae]
 unfold lX;rw[d];simp only[e];cases i:(cK (K.set k ((nD b.1 m).1,m.1,(nD b.1 m).2,b.2.2.2+1))).2 with|true=>exact⟨((nD b.1 m).1,m.1,(nD b.1 m).2,b.2.2.2+1),rfl,rfl,rfl,i⟩|false=>refine⟨(b.1,m.1,0,b.2.2.2+1),?_,rfl,rfl,?_⟩;rw[ab,aj J J];refine ai2 h d rfl ?_;unfold oZ at c⊢;simp only[af,aR]at c⊢;refine⟨c.1,⟨?_,?_⟩,?_,?_⟩;show 0<=m.1;omega;show m.1<=_;omega;show 0<=b.2.2.2+1;omega;show b.2.2.2+1<=_;omega
theorem ahi (h:(cK K).2=O){b}(a:K[k]?=I b){m}(c:m.1=b.2.1):lX K k m=(K,b.2.2.1):=by grind[EC,pz,List.set_getElem_self,lX]
theorem adN (h:(cK K).2=O){b}(d:K[k]?=I b){m}(a:m.1≠b.2.1)(c:m.1≠b.2.1+1):lX K k m=(K, -1):=by grind[pz,List.set_getElem_self,lX]
def adt (c:dv)(k:Nat)(h:Host)(b:dY):dv:=(c.1.set k (yo h b.1),c.2.1,c.2.2.1.set k b,c.2.2.2)
theorem apr {n m}(g:gx n c)(u:n<=m){b}(t:c.1[k]?=I h)(v:(cK (c.2.2.1.set k b)).2=O)(y:b.2.1<=m/\b.2.2.2<=m):gx m (adt c k h b):=by
 have p:=EC v;have q:=EC g.Dl;obtain⟨z,_⟩:=aA.1 t;have s:k<c.2.2.1.length:=by have:=g.len.1;omega
 have r:oZ b=true:=p.2.2.2.1 b (aF (bn s));have hf:gu b.1=true:=by unfold oZ at r;simp only[af]at r;exact r.1
 have w:∀l,c.1[k]?=I l->Good n l:=λl e=>(g.host k l _ e (ah s)).1;refine⟨v,⟨?_,?_⟩,?_,g.Sv,g.clock,λi h' o a d=>?_,λi j=>g.place i ?_,λx A=>?_,λf hf=>⟨by have:=(g.fnn f hf).1;omega,by have:=(g.fnn f hf).2;omega⟩⟩;show(c.1.set k _).length=(c.2.2.1.set k b).length;rw[aC,aC];exact g.len.1;show c.2.1.length=(c.2.2.1.set k b).length;rw[aC];exact g.len.2;have e:=g.fns;unfold fY at e⊢;rw[q.1,q.2.2.1,q.2.1,bg]at e;show(kH (cK (c.2.2.1.set k b)).1&&(range c.2.1.length).all (fnB c.2.1 ((cK (c.2.2.1.set k b)).1.length:Int)))=O;rw[p.1,p.2.2.1,bg,p.2.1,aC];exact e;have a:(c.1.set k (yo h b.1))[i]?=I h':=a;have d:(c.2.2.1.set k b)[i]?=I o:=d;by_cases j:i=k;subst j;rw[bn z]at a;rw[bn s]at d;rw[<-bu a,<-bu d];exact⟨aet ((w h t).mono u) hf,rfl⟩;rw[aJ (cI j)]at a d;exact⟨(g.host i h' o a d).1.mono u,(g.host i h' o a d).2⟩;have j:i<(c.1.set k (yo h b.1)).length:=j;rw[aC]at j;exact j;rcases cG A with e|e;have:=g.YN x e;omega;rw[e];exact y
theorem adT {n}(g:gx n c)(hn:n<=100000000000){b}(e:c.2.2.1[k]?=I b){m}(q:m.1=b.2.1+1):∃h a,c.1[k]?=I h/\il c (k:Int) m=(adt c k h a,a.2.2.1)/\a.2.1=m.1/\a.2.2.2=b.2.2.2+1/\(cK (c.2.2.1.set k a)).2=O/\gx (n+1) (adt c k h a):=by
 obtain⟨p,_⟩:=aA.1 e;have f:k<c.1.length:=by have:=g.len.1;omega
 have d:=g.YN b (aF e);obtain⟨a,j,l,o,i⟩:=ahh g.Dl e q d hn;refine⟨c.1[k],a,ah f,?_,l,o,i,apr g J (ah f) i ⟨J,J⟩⟩;unfold il;rw[g.ok J,aR.2 ⟨J,J⟩];simp only[bR,ae,au,j];rw[ah f,bn p];rfl
theorem adU {n}(g:gx n c)(hn:n<=100000000000){b}(d:c.2.2.1[k]?=I b){m a}(h:lX c.2.2.1 k m=(c.2.2.1,a)):il c (k:Int) m=(c,a):=by
 obtain⟨i,f⟩:=aA.1 d;have e:k<c.1.length:=by have:=g.len.1;omega
 have hf:=(g.host k _ b (ah e) d).2;unfold il;rw[g.ok J,aR.2 ⟨J,J⟩];grind[au,yo,List.set_getElem_self]
theorem gx.at {n}(g:gx n c){i:Nat}(a:c.1[i]?=I h):Good n h:=by obtain⟨b,_⟩:=aA.1 a;exact(g.host i h _ a (ah (by have:=g.len.1;omega))).1
theorem WI {n m}(g:gx n c)(o:n<=m){hs}(l:hs.length=c.1.length)(h:∀(i:Nat)(h':Host),hs[i]?=I h'->∃d,c.1[i]?=I d/\Good m h'/\oB h'=oB d):gx m (hs,c.2):=by have q:=g.mono o;refine⟨q.Dl,⟨l.trans q.len.1,q.len.2⟩,q.fns,q.Sv,q.clock,λi h' b j k=>?_,λi p=>q.place i gA,q.YN,q.fnn⟩;obtain⟨d,a,f,e⟩:=h i h' j;exact⟨f,e.trans (q.host i d b a k).2⟩
theorem N8 {n m}(g:gx n c)(j:n<=m){d}(f:c.1[k]?=I d)(l:Good m h)(e:oB h=oB d):gx m (X1 c k h):=by refine WI g j (aC ..) λi h' a=>?_;by_cases b:i=k;subst b;obtain⟨o,_⟩:=aA.1 f;rw[bn o]at a;rw[<-bu a];exact⟨d,f,l,e⟩;rw[aJ (cI b)]at a;exact⟨h',a,(g.at a).mono j,rfl⟩
theorem SN {n m}(g:gx n c)(j:n<=m){f}(hf:∀h,Good n h->Good m (f h))(e:∀h,oB (f h)=oB h):gx m (c.1.map f,c.2):=by refine WI g j (bt ..) λi h' b=>?_;rw[gz]at b;cases d:c.1[i]? with|none=>grind|some a=>rw[d]at b;rw[<-bu b];exact⟨a,rfl,hf a (g.at d),e a⟩
theorem ahQ {n}(g:gx n c)f:gx n (arf c f):=⟨g.Dl,g.len,g.fns,g.Sv,g.clock,g.host,g.place,g.YN,g.fnn⟩
theorem MU {n}(g:gx n c):gx n (IG c):=⟨g.Dl,g.len,g.fns,g.Sv,g.clock,g.host,g.place,g.YN,g.fnn⟩
theorem WN {n}(hn:n<=600000000000)(g:gx n c)ps v p j:gx (n+641) (dM ps v p c j):=by unfold dM;cases j==0 with|true=>exact(ahQ g _).mono|false=>simp only[ab];cases a:c.1[j-1]? with|none=>exact g.mono|some h=>exact N8 g J a (QN J (g.at a) _) (T0 ..)
theorem aae (ps:Z Port)(v:Int)(p:bQ):∀(l:gw){n:Int}{c:dv},n+641*(l.length:Int)<=600000000000->gx n c->gx (n+641*(l.length:Int)) (OJ ps v p c l)
 |[],n,c,_,g=>g.mono aD
 |j::l,n,c,hn,g=>by simp only[bj]at hn;have i:=aae ps v p l (n:=n+641) J (WN J g ps v p j);exact i.mono gA
theorem OU {n}(hn:n<=500000000000)(g:gx n c)e p:gx (n+2564) (nP c e p):=by unfold nP;cases decide (jg (cK c.2.2.1).1 e p<0)with|true=>exact g.mono|false=>have a:=uf (cK c.2.2.1).1 e p;have b:=(aaT c.2.2.1).1;exact(aae _ _ _ _ J g).mono
theorem aci {n}(hn:n<=500000000000)(g:gx n c)e p:gx (n+2564) (sk c e p):=by unfold sk;cases gY c&&eU p with|true=>exact OU hn g e p|false=>exact g.mono
theorem YW {n}(hn:n<=500000000000)(g:gx n c)x:gx (n+2564) (qE c x):=by
 unfold qE;cases !gY c;case true=>exact g.mono
 cases (cM x).2==0 with|true=>grind[OU,MU]|false=>exact(MU g).mono
theorem apm {i}(a:k<l.length):(l.set k f).getD i SL=if i=k then f else l.getD i SL:=by grind
theorem acf:fY l ps=O↔kH ps=O/\∀i,i<l.length->MQ (ps.length:Int) (l.getD i SL)=O/\∀j,j<i->alY (l.getD i SL) (l.getD j SL)=false:=by simp_all[fY,fnB]
theorem apk {a}(h:fY l ps=O)(b:a.length=l.length)(c:∀i,i<l.length->(a.getD i SL).1=(l.getD i SL).1/\(a.getD i SL).2.1=(l.getD i SL).2.1/\MQ (ps.length:Int) (a.getD i SL)=O):fY a ps=true:=by grind[acf,alY]
theorem aiW {a i}(h:Ac l i=O)(b:(a.getD i SL).1=(l.getD i SL).1/\(a.getD i SL).2.1=(l.getD i SL).2.1):Ac a i=true:=by grind[Ac]
theorem aeu {n m}(g:gx n c)(j:n<=m)(d:l.length=c.2.1.length)(b:∀i,i<c.2.1.length->(l.getD i SL).1=(c.2.1.getD i SL).1/\(l.getD i SL).2.1=(c.2.1.getD i SL).2.1/\MQ ((cK c.2.2.1).1.length:Int) (l.getD i SL)=O)(h:∀f∈l,f.2.2.2.2.1<=m/\f.2.2.2.2.2<=m):gx m (c.1,l,c.2.2):=by
 have q:=g.mono j;refine⟨q.Dl,⟨q.len.1,d.trans q.len.2⟩,apk q.fns d b,q.Sv,q.clock,q.host,λi a=>?_,q.YN,h⟩;have a:i<c.1.length:=a;have e:i<c.2.1.length:=by have:=q.len;omega
 exact aiW (q.place i a) ⟨(b i e).1,(b i e).2.1⟩
theorem MR {n}:MQ n f=O↔(0<=f.1/\f.1<=7)/\(1<=f.2.1/\f.2.1<=V (n-1))/\mr f.2.2.1=O/\(0<=f.2.2.2.2.1/\f.2.2.2.2.1<=1000000000000)/\0<=f.2.2.2.2.2/\f.2.2.2.2.2<=1000000000000:=by grind[MQ,aR]
theorem abQ {b}(h:mr b=O)n:mr (JY b n).1=true:=by grind[JY,mr,aR,aj]
theorem WL {n}(hn:n<=500000000000)(g:gx n c)k p:gx (n+1) (c.1,(ox c.2.1 (cK c.2.2.1).1 k p).1,c.2.2):=by
 have same:gx (n+1) (c.1,c.2.1,c.2.2):=g.mono;unfold ox;cases u:fY c.2.1 (cK c.2.2.1).1&&(eU p&&(!decide (k<0)&& !decide (k>=(c.2.1.length:Int))));exact same;simp only[ae];rcases hf:c.2.1[k.toNat]? with _|f;exact same;simp only;obtain⟨h,l⟩:=aA.1 hf;have hF:=(acf.1 g.fns).2;have s:=g.fnn f (aF hf);have j:MQ ((cK c.2.2.1).1.length:Int) f=true:=by have:=(hF k.toNat h).1;rw[cU h,l]at this;exact this
 have a:=MR.1 j;have go:∀b:bc,b.1=f.1->b.2.1=f.2.1->MQ ((cK c.2.2.1).1.length:Int) b=O->(b.2.2.2.2.1<=n+1/\b.2.2.2.2.2<=n+1)->gx (n+1) (c.1,c.2.1.set k.toNat b,c.2.2):=by intro b m o q r;refine aeu g J (aC ..) (λi a=>?_) λx t=>?_;rw[apm h];by_cases d:i=k.toNat;rw[aI d,d,cU h,l];exact⟨m,o,q⟩;rw[aK d];exact⟨rfl,rfl,(hF i a).1⟩;rcases cG t with e|e;have:=g.fnn x e;omega;rw[e];exact r
 cases asb (cK c.2.2.1).1 f p with|true=>refine go _ rfl rfl (MR.2 ⟨a.1,a.2.1,abQ a.2.2.1 _,?_,a.2.2.2.2⟩) ?_;show 0<=V (f.2.2.2.2.1+1)/\_;show 0<=V (f.2.2.2.2.1+1)/\V (f.2.2.2.2.1+1)<=1000000000000;rw[aj J J];omega;show V (f.2.2.2.2.1+1)<=n+1/\f.2.2.2.2.2<=n+1;rw[aj J J];omega|false=>refine go _ rfl rfl (MR.2 ⟨a.1,a.2.1,a.2.2.1,a.2.2.2.1,?_⟩) ?_;show 0<=V (f.2.2.2.2.2+1)/\V (f.2.2.2.2.2+1)<=1000000000000;rw[aj J J];omega;show f.2.2.2.2.1<=n+1/\V (f.2.2.2.2.2+1)<=n+1;rw[aj J J];omega
structure Gv (a b:dv):Prop where
 boxes:b.2.2.1=a.2.2.1
 flash:b.2.2.2.1=a.2.2.2.1
 clock:b.2.2.2.2.1=a.2.2.2.2.1
 stamps:b.2.2.2.2.2.1=a.2.2.2.2.2.1
 len:b.1.length=a.1.length
 up:∃w,b.2.2.2.2.2.2=a.2.2.2.2.2.2++w
theorem Gv.refl a:Gv a a:=⟨rfl,rfl,rfl,rfl,rfl,⟨[],(bm _).symm⟩⟩
theorem Gv.trans {a b}(h:Gv a b)(g:Gv b c):Gv a c:=by obtain⟨w,e⟩:=h.up;obtain⟨u,d⟩:=g.up;exact⟨g.boxes.trans h.boxes,g.flash.trans h.flash,g.clock.trans h.clock,g.stamps.trans h.stamps,g.len.trans h.len,⟨w++u,by rw[d,e,aH]⟩⟩
theorem Xg ps v p c j:Gv c (dM ps v p c j):=by unfold dM;cases j==0 with|true=>exact⟨rfl,rfl,rfl,rfl,rfl,⟨_,rfl⟩⟩|false=>simp only[ab];cases a:c.1[j-1]? with|none=>exact Gv.refl c|some h=>exact⟨rfl,rfl,rfl,rfl,aC ..,⟨[],(bm _).symm⟩⟩
theorem aaw (ps:Z Port)(v:Int)(p:bQ):∀(l:gw)(c:dv),Gv c (OJ ps v p c l)
 |[],c=>Gv.refl c
 |j::l,c=>(Xg ps v p c j).trans (aaw ps v p l _)
theorem Y7 c e p:Gv c (nP c e p):=by grind[nP,Gv.refl,aaw]
theorem acA c e p:Gv c (sk c e p):=by grind[sk,Y7,Gv.refl]
theorem Xf ps k c x:Gv c (F7 ps k c x):=by
 unfold F7;have e:Gv c (c.1,(ox c.2.1 ps k (cM x).1).1,c.2.2):=⟨rfl,rfl,rfl,rfl,rfl,⟨[],(bm _).symm⟩⟩
 cases (ox c.2.1 ps k (cM x).1).2.2 with|true=>exact e.trans (acA ..)|false=>exact e
theorem WJ {n}(hn:n<=400000000000)(g:gx n c)k x:gx (n+2565) (F7 (cK c.2.2.1).1 k c x):=by have q:=WL J g k (cM x).1;unfold F7;cases (ox c.2.1 (cK c.2.2.1).1 k (cM x).1).2.2 with|true=>exact(aci J q _ _).mono|false=>exact q.mono
theorem WK (k:Int)(ps:Z Port):∀(l:cL){n:Int}{c:dv},n+2565*(l.length:Int)<=400000000000->ps=(cK c.2.2.1).1->gx n c->gx (n+2565*(l.length:Int)) (Iw ps k c l)
 |[],n,c,_,_,g=>g.mono aD
 |x::l,n,c,b,a,g=>by simp only[bj]at b;have s:=WJ J g k x;rw[<-a]at s;have i:=WK k ps l (n:=n+2565) J (by rw[(Xf ps k c x).boxes];exact a) s;exact i.mono gA
theorem arQ {n}(hn:n<=300000000000)(g:gx n c)k:gx (n+14000000) (wG c k):=by unfold wG;cases gY c&&(!decide (k<0)&& !decide (k>=(c.1.length:Int)));exact g.mono;simp only[ae];cases a:c.1[k.toNat]? with|none=>exact g.mono|some h=>have q:=N8 g (gH n) a (JK (g.at a)) (K9 h);have b:=Kz h;exact(WK k (cK c.2.2.1).1 (Ng h) (c:=X1 c k.toNat (cS h)) J rfl q).mono
theorem J3 (l:Z α)i a:l.take i++[l[i]]=l.take (i+1):=(aM a).symm
theorem S5 {w:dD}{n}(z:cJ n iZ w):∀m∈w.2.2.2.1,m.1.2.2.length<=n:=λm a=>(z.2.2.2.1.2 m a).1.2.2.1
theorem Ld {w:dD}(z:cJ 1000000000 iZ w):Vj w:=⟨z.1.1,z.2.2.1.1,S5 z,λs hs=>(z.1.2 s hs).1.2.2.1,λs hs=>(z.1.2 s hs).2.1.1.1,λs hs=>(z.1.2 s hs).2.1.2.1.1,λs hs=>(z.1.2 s hs).2.1.2.2.2.1⟩
theorem JU (w:dD)(z:cJ 1000000000 iZ w):zS w=I w:=by have c:w.1.length<=10^9:=z.1.1;have d:w.2.1.length<=10^9:=z.2.1.1;have e:w.2.2.2.1.length<=10^9:=z.2.2.2.1.1;unfold zS;rw[fi z.2.2.1.1,fi z.2.2.2.2.1];simp only[bF];refine bJ (λi=>((i:Int),w.1.take i,([]:Z cL),w.2.2.1,([]:Z dY),w.2.2.2.2)) w.1.length J (λi b a=>?_) (λb=>?_);simp only[BE];rw[iG,aP a,aj J J];simp only[ae,aa,RN _ (z.1.2 _ (az a))];rw[aU (by simp;omega),J3 _ i a];rfl;simp only[BE];rw[ga,ab,bB];refine bJ (λi=>((i:Int),w.1,w.2.1.take i,w.2.2.1,([]:Z dY),w.2.2.2.2)) w.2.1.length J (λi b a=>?_) (λb=>?_);simp only[BF];rw[iG,aP a,aj J J];simp only[ae,aa];rw[fi (z.2.1.2 _ (az a)).1,bF,aU (by simp;omega),J3 _ i a];rfl;simp only[BF];rw[ga,ab,bB];refine bJ (λi=>((i:Int),w.1,w.2.1,w.2.2.1,w.2.2.2.1.take i,w.2.2.2.2)) w.2.2.2.1.length J (λi b a=>?_) (λb=>?_);simp only[zT];rw[iG,aP a,aj J J];simp only[ae,aa,nv _ (S5 z _ (az a))];rw[aU (by simp;omega),J3 _ i a];rfl;simp only[zT];rw[ga,ab,bB]
def II (ps:Z Port)(v:Int)(p:bQ)(w:dD)(j:Nat):dD:=
 bif j==0 then(w.1,w.2.1,w.2.2.1,w.2.2.2.1,w.2.2.2.2++[(Ei (Dg ps (j:Int) v p)).1])
 else(w.1.set (j-1) (Is (w.1.getD (j-1) aqM) (Ei (Dg ps (j:Int) v p)).1),w.2)
theorem ak6 ps v p w j:(II ps v p w j).1.length=w.1.length:=by grind[II]
theorem an9 {v}{w:dD}{n}(f:j<=w.1.length)(hn:382<=n)(z:cJ n iZ w):cJ (n+322) iZ (II ps v p w j):=by
 have a:cJ (n+322) iZ w:=z.mono;have e:=Ej (Dg ps (j:Int) v p);unfold II;cases b:j==0 with
 |true=>refine⟨a.1,a.2.1,a.2.2.1,a.2.2.2.1,?_,λx c=>?_⟩;have:w.2.2.2.2.length<=n:=z.2.2.2.2.1;show(w.2.2.2.2++[_]).length<=_;simp only[aq,aO];omega;rcases aB.1 c with h|h;exact a.2.2.2.2.2 x h;rw[aY.1 h];show List.length _<=_;omega
 |false=>
  have:j≠0:=by simpa using b
  have d:j-1<w.1.length:=J;refine⟨⟨?_,λx c=>?_⟩,a.2⟩;show(w.1.set _ _).length<=_;rw[aC];exact a.1.1;rcases cG c with h|h;exact a.1.2 x h;rw[h,cU d];exact acT (z.1.2 _ (az d))
def KH ps v p w(l:gw):=l.foldl (II ps v p) w
theorem acZ (ps:Z Port)(v:Int)(p:bQ):∀(l:gw)(w:dD),(KH ps v p w l).1.length=w.1.length
 |[],w=>rfl
 |j::l,w=>by show(KH ps v p (II ps v p w j) l).1.length=_;rw[acZ ps v p l,ak6]
theorem Ts {ps:Z Port}{v:Int}{p:bQ}:∀(l:gw){w:dD}{n:Nat},(∀j∈l,j<=w.1.length)->382<=n->cJ n iZ w->cJ (n+322*l.length) iZ (KH ps v p w l)
 |[],w,n,_,_,z=>z
 |j::l,w,n,b,hn,z=>by have a:=an9 (ps:=ps) (v:=v) (p:=p) (b j aD) hn z;have:=Ts (ps:=ps) (v:=v) (p:=p) l (w:=II ps v p w j) (λk c=>by grind[ak6]) J a;exact this.mono gA
theorem ajc ps v p w(l:gw)i a:KH ps v p w (l.take (i+1))=II ps v p (KH ps v p w (l.take i)) l[i]:=by grind[aM,KH]
theorem LM (K:dD->aS R)ps v p(w:dD)l(t:l.length<=8)(k:∀j∈l,j<=w.1.length)(z:cJ 90000000 iZ w)(s:rF ps): aQ (qT (λ(_:Int) (g:dD)=>K g) ps (kl l) v p) fuel (0,w)=K (KH ps v p w l):=by
 refine bJ (λi=>((i:Int),KH ps v p w (l.take i))) l.length J (λi r c=>?_) (λr=>?_);have a:i<(kl l).length:=by simpa[kl]using c
 have m:(kl l)[i]'a=(l[i]:Int):=by simp[kl]
 have hn:=acZ ps v p (l.take i) w;have d:=(Ts (ps:=ps) (v:=v) (p:=p) (l.take i) (λj h=>k j (List.mem_of_mem_take h)) J z).mono (show 90000000+322*(l.take i).length<=100000000 by rw[bp];omega);have o:=k _ (az c);have e:=Ej (Dg ps (l[i]:Int) v p);rw[ajc ps v p w l i c];generalize KH ps v p w (l.take i)=W at hn d⊢;have u:W.2.2.2.2.length<=100000000:=d.2.2.2.2.1;have q:W.1.length<=100000000:=d.1.1;simp only[qT];rw[ax (by simpa[kl]using c),aP a,m,aj (n:=(i:Int)+1) J J];simp only[ae,aa,abf ps _ v p s,Ou,II];by_cases b:l[i]=0;rw[show((l[i]:Int)==0)=O from by simp[b],show(l[i]==0)=O from by simp[b]];simp only[ae];rw[aU (by simp only[aO];omega)];rfl;rw[show((l[i]:Int)==0)=G from by simp[b],show(l[i]==0)=G from by simp[b]];have f:l[i]-1<W.1.length:=J;rw[aj (n:=(l[i]:Int)-1) J J,(J:(l[i]:Int)-1=((l[i]-1:Nat):Int))];simp only[ab,aP f,aa,ags _ _ (d.1.2 _ (az f)) (bf e J),au,cU f];rfl;simp only[qT];rw[aw (by simp[kl]),ab,bB]
def jc w e p:=
 bif oQ w&&eU p then(bif decide (jg (cK w.2.2.2.1).1 e p<0) then w else KH (cK w.2.2.2.1).1 (jg (cK w.2.2.2.1).1 e p) p w (sm (cK w.2.2.2.1).1 e p)) else w
theorem VB {w}(h:oQ w=O):(cK w.2.2.2.1).1.length=w.1.length+1/\(cK w.2.2.2.1).1.length<=8:=by unfold oQ at h;simp only[af]at h;have c:=(Re h.2.1).1;have b:=h.1;unfold cK at b⊢;cases a:dF (w.2.2.2.1.length:Int) 1 3&&(w.2.2.2.1.all oZ&&kH (oc w.2.2.2.1))with|false=>grind|true=>simp only[af]at a;have:=(MS w.2.2.2.1 0 ([0],[]) ⟨aD,rfl,aD⟩ a.2.1).2.1;grind[aR,oc]
theorem Vf (w:dD)e p(z:cJ 90000000 iZ w):zv w e p=I (jc w e p):=by have b:cJ 1000000000 iZ w:=z.mono;unfold zv tW jc;simp only[JU w b,TB w (Ld b),BR,aa];cases c:oQ w;rfl;cases eU p;rfl;have f:=VB c;have a:=Lw w.2.2.2.1;simp only[ak,ab,aa,bR,ae,qG _ (S5 b),IA _ e p a,Jw _ e p a];generalize (cK w.2.2.2.1).1=ps at f a⊢;unfold Hx;cases decide (jg ps e p<0)with|true=>exact congrArg (λq=>U q λr:Unit×dD=>I r.2) (LM (λw=>I ((),w)) ps (jg ps e p) p w [] aD aD z a)|false=>exact congrArg (λq=>U q λr:Unit×dD=>I r.2) (LM (λw=>I ((),w)) ps (jg ps e p) p w (sm ps e p) (by grind[uf]) (λj d=>by have:=Ck j d;omega) z a)
def Ly b n:=
 bif mr b&&dF n 0 1000000 then(b.1,b.2.1,if b.2.1<V (b.2.2+V (b.1*n)) then b.2.1 else V (b.2.2+V (b.1*n))) else b
theorem aia (b:J6)n:wQ b n=I (Ly b n):=by grind[wQ,Ly,PX,aa,cP]
theorem ajv (b:J6)n:xn b n=I (Ly b n):=by grind[xn,Ly,Iy,aa,cz]
def GH f(l:Z α)i:=(l.take i).map f++l.drop i
theorem Cf f(l:Z α)i:(GH f l i).length=l.length:=by grind[GH]
theorem Ey f{l:Z α}{i}h:idx (GH f l i) (i:Int)=I l[i]:=by grind[Oa,GH]
theorem Ez f{l:Z α}{i}h:(GH f l i).set i (f l[i])=GH f l (i+1):=by grind[GH,bZ,aM]
theorem Ew f(l:Z α):GH f l l.length=l.map f:=by grind[GH]
def Sc (n:Int)(f:bc):bc:=(f.1,f.2.1,Ly f.2.2.1 n,f.2.2.2)
theorem ae5 l n(h:l.length<=10^9):uD l n=I (l.map (Sc n)):=by unfold uD;rw[CE l h,aa];refine bJ (λi=>(GH (Sc n) l i,(i:Int))) l.length J (λi b a=>?_) (λb=>?_);simp only[pE];rw[iG,Ey _ a,aj J J];simp only[ae,aa,aia,au];rw[<-Ez _ a];rfl;simp only[pE];rw[ga,ab,Ew]
theorem UK l n(h:l.length<=10^9):pt l n=I (l.map (Sc n)):=by unfold pt;rw[fi h,bF];refine bJ (λi=>(GH (Sc n) l i,(i:Int))) l.length J (λi b a=>?_) (λb=>?_);simp only[pM,Cf];rw[iG,Ey _ a,aj J J];simp only[ae,aa,ajv,au];rw[<-Ez _ a];rfl;simp only[pM,Cf];rw[ga,ab,Ew]
def noQ (w:dD)(i:Nat):dD:=(w.1,GH (λ_=>[]) w.2.1 i,w.2.2)
theorem asw w b(h:w.2.1.length<=10^9):aQ (tw (λ_ a=>I a) b) fuel (0,w)=I (w.1,w.2.1.map (λ_=>[]),w.2.2):=by refine bJ (λi=>((i:Int),noQ w i)) w.2.1.length J (λi d c=>?_) (λd=>?_);simp only[tw,noQ,Cf];rw[iG,Ey _ c,aj J J];rw[<-Ez _ c];rfl;simp only[tw,noQ,Cf];rw[ga,ab,Ew]
theorem adg w e p(b:oQ w=O)(f:eU p=O)(z:cJ 90000000 iZ w):tW w e p=I ((),jc w e p):=by have g:cJ 1000000000 iZ w:=z.mono;have d:=VB b;have a:=Lw w.2.2.2.1;unfold tW jc;simp only[b,f,bR,ae,qG _ (S5 g),IA _ e p a,Jw _ e p a,aa];generalize (cK w.2.2.2.1).1=ps at d a⊢;unfold Hx;cases decide (jg ps e p<0)with|true=>exact LM (λw=>I ((),w)) ps (jg ps e p) p w [] aD aD z a|false=>exact LM (λw=>I ((),w)) ps (jg ps e p) p w (sm ps e p) (by grind[uf]) (λj c=>by have:=Ck j c;omega) z a
theorem XJ {w}(h:oQ w=O):w.1.length=w.2.2.2.1.length/\w.2.1.length=w.2.2.2.1.length/\w.2.2.1.length=w.2.2.2.1.length/\1<=w.2.2.2.1.length/\w.2.2.2.1.length<=3:=by grind[oQ,Na,cK,aR]
theorem Jc {w:dD}{e n}(d:382<=n)(z:cJ n iZ w):cJ (n+1288) iZ (jc w e p):=by have a:cJ (n+1288) iZ w:=z.mono;unfold jc;cases b:oQ w;exact a;cases eU p;exact a;have h:=(VB b).1;have f:=XJ b;generalize (cK w.2.2.2.1).1=ps at h⊢;cases decide (jg ps e p<0)with|true=>exact a|false=>have g:=uf ps e p;exact(Ts (sm ps e p) (λj c=>by have:=Ck j c;omega) d z).mono
theorem asC ps v p w j:(II ps v p w j).2.1=w.2.1/\(II ps v p w j).2.2.2.1=w.2.2.2.1:=by grind[II]
theorem akT (ps:Z Port)(v:Int)(p:bQ):∀(l:gw)(w:dD),(KH ps v p w l).2.1=w.2.1/\(KH ps v p w l).2.2.2.1=w.2.2.2.1
 |[],w=>⟨rfl,rfl⟩
 |j::l,w=>by have a:=akT ps v p l (II ps v p w j);have b:=asC ps v p w j;exact⟨a.1.trans b.1,a.2.trans b.2⟩
def aoy (a b:dD):=b.1.length=a.1.length/\b.2.1=a.2.1/\b.2.2.2.1=a.2.2.2.1
theorem UO w e p:aoy w (jc w e p):=by unfold jc;cases oQ w&&eU p;exact⟨rfl,rfl,rfl⟩;cases hd:decide (jg (cK w.2.2.2.1).1 e p<0)with|true=>exact⟨rfl,rfl,rfl⟩|false=>have h:=akT (cK w.2.2.2.1).1 (jg (cK w.2.2.2.1).1 e p) p (sm (cK w.2.2.2.1).1 e p) w;exact⟨acZ _ _ _ _ _,h.1,h.2⟩
def zX (x:Bytes):=decide (22<=x.length)
theorem ai6 {x}(h:((cM x).2==0)=O):zX x=true:=by
 refine ax (nC λb=>?_);have a:(Gg x).2=O->(Gg x).1.length<18:=by grind[Gg]
 grind[cM,iq,xW]
def Pf ps k w x:=
 bif (cM x).2==0 then(bif (ox w.2.2.1 ps k (cM x).1).2.2 then jc (w.1,w.2.1,(ox w.2.2.1 ps k (cM x).1).1,w.2.2.2) (k+1) (cM x).1
  else(w.1,w.2.1,(ox w.2.2.1 ps k (cM x).1).1,w.2.2.2)) else w
def XT ps k w(l:cL):=l.foldl (Pf ps k) w
theorem arN {n}(h:l.length<=n):cJ n (.sl lW) l:=⟨h,λ_ _=>⟨B,B,⟨B,B,B⟩,B,B,B⟩⟩
theorem NO {n}{w:dD}(z:cJ n iZ w)(h:l.length=w.2.2.1.length):cJ n iZ (w.1,w.2.1,l,w.2.2.2):=⟨z.1,z.2.1,arN (by rw[h];exact z.2.2.1.1),z.2.2.2⟩
theorem an7 {k}{w:dD}{x n}(a:382<=n)(z:cJ n iZ w):cJ (n+1288*[x].countP zX) iZ (Pf ps k w x):=by
 unfold Pf;cases b:(cM x).2==0 with
 |false=>exact z.mono
 |true=>
  have e:[x].countP zX=1:=by simp[ai6 b]
  have z2:=NO z (KK w.2.2.1 ps k (cM x).1);rw[e];cases (ox w.2.2.1 ps k (cM x).1).2.2 with|false=>exact z2.mono|true=>exact Jc a z2
theorem XU {ps:Z Port}{k:Int}:∀(l:cL){w:dD}{n:Nat},382<=n->cJ n iZ w->cJ (n+1288*l.countP zX) iZ (XT ps k w l)
 |[],w,n,_,z=>z
 |x::l,w,n,hn,z=>by have h:=XU (ps:=ps) (k:=k) l J (an7 (ps:=ps) (k:=k) (x:=x) hn z);refine h.mono ?_;grind
theorem ajG ps k w x:aoy w (Pf ps k w x):=by unfold Pf;cases (cM x).2==0;exact⟨rfl,rfl,rfl⟩;cases (ox w.2.2.1 ps k (cM x).1).2.2 with|false=>exact⟨rfl,rfl,rfl⟩|true=>exact UO (w.1,w.2.1,(ox w.2.2.1 ps k (cM x).1).1,w.2.2.2) _ _
theorem aa6 (ps:Z Port)(k:Int):∀(l:cL)(w:dD),aoy w (XT ps k w l)
 |[],w=>⟨rfl,rfl,rfl⟩
 |x::l,w=>by have a:=aa6 ps k l (Pf ps k w x);have b:=ajG ps k w x;exact⟨a.1.trans b.1,a.2.1.trans b.2.1,a.2.2.trans b.2.2⟩
theorem anC ps k w(l:cL)i a:XT ps k w (l.take (i+1))=Pf ps k (XT ps k w (l.take i)) l[i]:=by grind[aM,XT]
theorem adV p(l:Z α)i:(l.take i).countP p<=l.countP p:=(List.take_sublist i l).countP_le
theorem anS ps(k n:Nat)(w:dD)(l:cL)(p:k<=100000000)(hn:382<=n)(z:cJ n iZ w)(m:n+1288*l.countP zX<=90000000)(d:cJ 1000000000 (.sl .str) l)(j:rF ps): aQ (nO (λ_ c=>I ((),c)) (k:Int) l ps) fuel (0,w)=I ((),XT ps k w l):=by
 have e:=d.1;refine bJ (λi=>((i:Int),XT ps k w (l.take i))) l.length J (λi h a=>?_) (λh=>?_);have g:=d.2 _ (az a);have o:=adV zX l i;have b:cJ 90000000 iZ (XT ps k w (l.take i)):=(XU (l.take i) hn z).mono;rw[anC ps k w l i a];generalize XT ps k w (l.take i)=W at b⊢;have hf:W.2.2.1.length<=10^9:=bf b.2.2.1.1 J;simp only[nO];rw[iG,aP a,aj J J,aj J J];simp only[ae,aa,EI _ g,abj _ ps _ _ hf j,Pf];have z2:=NO b (KK W.2.2.1 ps k (cM l[i]).1);cases f:(cM l[i]).2==0 with|false=>rw[af3 (afR f)];rfl|true=>cases (ox W.2.2.1 ps k (cM l[i]).1).2.2 with|false=>rfl|true=>simp only[ae,Vf _ _ _ z2,aa];rfl
 simp only[nO];rw[ga,ab,bB]
def HN (w:dD)(k:Nat):=XT (cK w.2.2.2.1).1 k (w.1,w.2.1.set k [],w.2.2) (w.2.1.getD k [])
theorem PA {n}{w:dD}k(z:cJ n iZ w):cJ n iZ (w.1,w.2.1.set k [],w.2.2):=⟨z.1,⟨by rw[aC];exact z.2.1.1,λx a=>by rcases cG a with h|rfl;exact z.2.1.2 x h;exact⟨cg _,λy b=>by cases b⟩⟩,z.2.2⟩
theorem Zp (w:dD)k n(a:k<w.2.1.length)(d:382<=n)(z:cJ n iZ w)(b:n+1288*(w.2.1.getD k []).countP zX<=90000000):zU w (k:Int)=I ((),HN w k):=by have c:cJ 1000000000 iZ w:=z.mono;have e:=z.2.1.1;rw[cU a]at b;unfold zU HN;simp only[qG _ (S5 c),aa,aah,aP a,au,cU a];exact anS _ k n (w.1,w.2.1.set k [],w.2.2) _ J d (PA k z) b (c.2.1.2 _ (az a)) (Lw _)
def MD (w:dD)(k:Nat)(m:J6):dD:=
 match (lX w.2.2.2.1 k m).1[k]?,w.1[k]? with
 |some b,I s=>(w.1.set k (b.1,s.2),w.2.1,w.2.2.1,(lX w.2.2.2.1 k m).1,w.2.2.2.2)
 |_,_=>w
def akV (w:dD)(k:Nat)(p:bQ)(n:Int):dD:=(w.1,w.2.1.set k (w.2.1.getD k []++GI p n),w.2.2)
def aoH w(a:dX)(v:Int):=
 bif a.1==1 then MD w a.2.1.toNat a.2.2.2.1 else
 bif a.1==2 then(w.1,w.2.1.map (λ_=>[]),w.2.2) else
 bif a.2.2.1.1==0 then(bif v==1 then akV w a.2.1.toNat a.2.2.1.2.1 a.2.2.1.2.2.1 else w) else
 bif a.2.2.1.1==1 then HN w a.2.1.toNat else
 bif a.2.2.1.1==2 then(bif (cM a.2.2.1.2.2.2.2.1).2==0 then jc w 0 (cM a.2.2.1.2.2.2.2.1).1 else w) else
 bif a.2.2.1.1==4 then(w.1,w.2.1,w.2.2.1.map (Sc 1),w.2.2.2) else
 bif a.2.2.1.1==6 then(w.1,w.2.1.set a.2.1.toNat [],w.2.2) else w
def okI w(a:dX):=oQ w&&(IW a.2.2.1&&(dF a.2.1 0 ((w.1.length:Int)-1)&&(dF a.1 0 2&&dF a.2.2.2.2.2 0 100)))
def Cx w a v:=bif okI w a then aoH w a v else w
def YL N(w:dD):=∃n,382<=n/\cJ n iZ w/\n+1288*(w.2.1.map (λq=>q.countP zX)).sum<=N
theorem afl {l:gw}(h:x∈l):x<=l.sum:=by have:=Lr (λy=>y) l x h;simpa using this
theorem auJ {N}{w:dD}{n}(h:n+1288*(w.2.1.map (λq=>q.countP zX)).sum<=N)(b:k<w.2.1.length):n+1288*(w.2.1.getD k []).countP zX<=N:=by
 have a:(w.2.1.getD k []).countP zX<=(w.2.1.map (λq=>q.countP zX)).sum:=by simp_all[afl,List.mem_map_of_mem]
 omega
theorem agh w(a:dX)v N(l:YL N w)(q:N<=90000000)(j:cJ 1000000000 Mt a)(m:a.2.2.2.1.1<=9223372036854775807):Hh w a v=I (Cx w a v):=by
 obtain⟨n,r,z,s⟩:=l;have h:cJ 1000000000 iZ w:=z.mono;have i:cJ 90000000 iZ w:=z.mono;have t:a.2.2.1.2.2.2.2.1.length<=10^9:=j.2.2.1.2.2.2.2.1;unfold Hh Cx okI;rw[show dF a.2.1 0 ((w.1.length)-1)=(!decide (a.2.1<0)&& !decide (a.2.1>=(w.1.length))) from by grind[aR]];simp only[JU w h,TB w (Ld h),ac3,cz,aa];cases p:oQ w;rfl;obtain⟨u,x,y,A,B⟩:=XJ p;cases IW a.2.2.1;rfl;cases c:decide (a.2.1<0);case true=>rfl
 cases d:decide (a.2.1>=(w.1.length));case true=>rfl
 cases dF a.1 0 2;rfl;cases dF a.2.2.2.2.2 0 100;rfl;simp only[ae,aa,ak,bS,ab,bR];simp only[cp]at c d;obtain⟨k,f⟩:=ar (J:0<=a.2.1);have e:k<w.2.1.length:=J;unfold aoH;rw[f,au];cases a.1==1 with
 |true=>have g:∀b∈w.2.2.2.1,b.1.2.2.length<=100000000:=λb g=>bf (S5 i b g) J;grind[Ah,HT,KN,aa,aP,jJ,MD]
 |false=>
  cases a.1==2 with
  |true=>grind[asw]
  |false=>
   cases a.2.2.1.1==0 with
   |true=>cases v==1 with|false=>rfl|true=>have hs:=(Tw a.2.2.1.2.1 a.2.2.1.2.2.1).1;have o:=(i.2.1.2 _ (az e)).1;grind[aah,aP,agt,aa,akV,aU]
   |false=>grind[Zp,auJ,aa,EI,adg,acS,UK,aP]
theorem adn (c:cL->Nat):∀(l:Z cL)(k:Nat)(x:cL)(h:k<l.length),((l.set k x).map c).sum+c l[k]=(l.map c).sum+c x
 |y::l,0,x,_=>gA
 |y::l,k+1,x,h=>by have:=adn c l k x (by simpa using h);grind
theorem sum_nil (l:Z cL):((l.map (λ_=>([]:cL))).map (λq=>q.countP zX)).sum=0:=by induction l with|nil=>rfl|cons x l a=>grind
theorem aoI {N w v}(A:YL N w)(r:okI w a=O):YL (N+412542) (aoH w a v):=by
 obtain⟨n,hn,z,D⟩:=A;simp only[okI,af]at r;obtain⟨C,_,j,_⟩:=r;obtain⟨E,F,H,K,L⟩:=XJ C;have j:=aR.1 j;obtain⟨k,l⟩:=ar j.1;have c:k<w.2.1.length:=J;have same:YL (N+412542) w:=⟨n,hn,z,J⟩
 have t:=adn (λq=>q.countP zX) w.2.1 k [] c;simp only[List.countP_nil,eY]at t;unfold aoH;rw[l,au];cases a.1==1 with
 |true=>simp only[ae,MD];split;rename_i b s g hs;have e:=HT w.2.2.2.1 k a.2.2.2.1 J (λb g=>(z.2.2.2.1.2 b g).1.2.2.1);have o:=z.1.2 _ (aF hs);refine⟨n,hn,⟨⟨by rw[aC];exact z.1.1,λx d=>?_⟩,z.2.1,z.2.2.1,⟨by rw[Ah];exact z.2.2.2.1.1,λx d=>?_⟩,z.2.2.2.2⟩,by show n+1288*(w.2.1.map (λq=>q.countP zX)).sum<=_;omega⟩;rcases cG d with h|rfl;exact z.1.2 x h;exact⟨⟨B,B,e b (aF g),λ_ _=>trivial⟩,o.2⟩;exact⟨⟨B,B,e x d,λ_ _=>trivial⟩,B,B,B⟩;exact same
 |false=>
  simp only[ab];cases a.1==2 with
  |true=>rw[ae];refine⟨n,hn,⟨z.1,⟨by rw[bt];exact z.2.1.1,λx d=>?_⟩,z.2.2⟩,?_⟩;obtain⟨_,_,rfl⟩:=cX.1 d;exact⟨cg _,λy p=>by cases p⟩;rw[sum_nil];omega
  |false=>
   simp only[ab];cases a.2.2.1.1==0 with
   |true=>cases v==1 with|false=>exact same|true=>have hs:=Tw a.2.2.1.2.1 a.2.2.1.2.2.1;have f:=z.2.1.2 _ (az c);have i:=adn (λq=>q.countP zX) w.2.1 k (w.2.1[k]++GI a.2.2.1.2.1 a.2.2.1.2.2.1) c;have u:(GI a.2.2.1.2.1 a.2.2.1.2.2.1).countP zX<=320:=bf List.countP_le_length hs.1;simp only[List.countP_append]at i;simp only[ae,akV,cU c];have z2:cJ (n+320) iZ w:=z.mono;refine⟨n+320,J,⟨z2.1,⟨by rw[aC];exact z2.2.1.1,λx d=>?_⟩,z2.2.2⟩,by show n+320+1288*((w.2.1.set k (w.2.1[k]++GI a.2.2.1.2.1 a.2.2.1.2.2.1)).map (λq=>q.countP zX)).sum<=_;omega⟩;rcases cG d with h|rfl;exact z2.2.1.2 x h;refine⟨by have:=f.1;rw[aq];omega,λy p=>?_⟩;rcases aB.1 p with h|h;exact bf (f.2 y h) J;exact bf (hs.2 y h) J
   |false=>
    simp only[ab];cases a.2.2.1.1==1 with
    |true=>simp only[ae,HN,cU c];have m:=(aa6 (cK w.2.2.2.1).1 k w.2.1[k] (w.1,w.2.1.set k [],w.2.2)).2.1;refine⟨_,J,XU w.2.1[k] hn (PA k z),?_⟩;rw[m];show _+1288*((w.2.1.set k []).map (λq=>q.countP zX)).sum<=_;omega
    |false=>
     simp only[ab];cases a.2.2.1.1==2 with
     |true=>simp only[ae];cases (cM a.2.2.1.2.2.2.2.1).2==0 with|false=>exact same|true=>refine⟨n+1288,J,Jc hn z,?_⟩;rw[ae,(UO w 0 (cM a.2.2.1.2.2.2.2.1).1).2.1];omega
     |false=>cases a.2.2.1.1==4 with|true=>exact⟨n,hn,NO z (bt ..),by show n+1288*(w.2.1.map (λq=>q.countP zX)).sum<=_;omega⟩|false=>cases a.2.2.1.1==6 with|true=>refine⟨n,hn,PA k z,?_⟩;show n+1288*((w.2.1.set k []).map (λq=>q.countP zX)).sum<=_;omega|false=>exact same
theorem ab2 {N w v}(b:YL N w):YL (N+412542) (Cx w a v):=by unfold Cx;cases c:okI w a with|true=>exact aoI b c|false=>obtain⟨n,hn,z,d⟩:=b;rw[ab];exact⟨n,hn,z,J⟩
end
end Go.Pu
