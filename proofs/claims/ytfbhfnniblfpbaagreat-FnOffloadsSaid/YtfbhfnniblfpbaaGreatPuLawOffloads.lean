import Derived.Test.YtfbhfnniblfpbaaGreatPuX3
namespace Go.Pu
open Go.Dn
set_option linter.unusedSimpArgs false
set_option linter.unusedVariables false
noncomputable section
variable {fl:Filter} {h h':Host} {N:Int} {c hd k:Nat} {Q:Nat->ax Ho->aW->Vector->Bool->Prop} {p:aH} {st:cX} {s:lJ} {α:Type} {l:ax Act} {e:ax aH} {F P:fi} {m sent:bK}
/- Draws: the queues of a drawn host stand well in its memory. -/
theorem akE:W3 m So 0 []:=by have np:=(RJ (a:=256) (b:=128) (n:=8)).1;refine⟨rfl,⟨by simp,λj hj=>by simp at hj⟩,rfl,(λc hc=>by cases hc),?_⟩;show(mP 256 128 8).1.1=256/\(mP 256 128 8).1.2.1=128/\(mP 256 128 8).1.2.2.1=8;grind
theorem aeY (f:Filter)(s:cX)(c:Bool):NP 0 (Yb f s c 38):=by refine⟨rfl,⟨λx hx=>?_,?_⟩,⟨0,[],akE⟩,⟨cU _,rfl,rfl,rfl⟩,(λv hv=>by cases hv),λj hj=>by omega⟩;have hx:x∈List.replicate 38 (zA 128):=hx;rw[(List.mem_replicate.1 hx).2];exact xF 128;show(List.replicate 38 (zA 128)).length=38;simp
theorem acZ {l:ax α}{j:Nat}(hl:l.length=k)(hj:j<k)(x y:α):((l++[x]).set k y)[j]?=l[j]?:=by grind
theorem XT {l:ax α}(hl:l.length=k)(x y:α):((l++[x]).set k y)[k]?=some y:=bL (by simp;omega)
theorem ac0 {l:ax α}{j:Nat}(hl:l.length=k)(hj:j<k)(x:α):(l++[x])[j]?=l[j]?:=bB (by omega)
theorem VQ {l:ax α}(hl:l.length=k)(x:α):(l++[x])[k]?=some x:=by rw[<-hl];simp
theorem afq (r:NP h.2.2.2.1.length h)(hk:h.2.2.2.1.length<=1){v:Vector}(h3:v.2.1<=3/\v.2.2.2.2.1=false):NP (h.2.2.2.1.length+1) (Ok (h.1,h.2.1,h.2.2.1,h.2.2.2.1++[((0,0,0,0),(0,0,0),(0,0,0),((0,0,0,0,0,0,0,0,0,0,0,0,0,0,0,([]:Bytes)),0,0),false,0)],h.2.2.2.2.1++[(0,0,0,([]:dm))],h.2.2.2.2.2.1++[v],h.2.2.2.2.2.2.1++[false],h.2.2.2.2.2.2.2) h.2.2.2.1.length)/\(Ok (h.1,h.2.1,h.2.2.1,h.2.2.2.1++[((0,0,0,0),(0,0,0),(0,0,0),((0,0,0,0,0,0,0,0,0,0,0,0,0,0,0,([]:Bytes)),0,0),false,0)],h.2.2.2.2.1++[(0,0,0,([]:dm))],h.2.2.2.2.2.1++[v],h.2.2.2.2.2.2.1++[false],h.2.2.2.2.2.2.2) h.2.2.2.1.length).2.2.2.1.length=h.2.2.2.1.length+1:=by obtain⟨l0,l2,l3,l4⟩:=r.lens;generalize SU:h.2.2.2.1.length=k at*;have l1:=SU;have hn:iM k=1280+1792*k:=rfl;unfold Ok;simp only[VQ l1,r.maps];obtain⟨o1,⟨P,o2⟩,o3⟩:=UE r.mem hk (((0,0,0,0,0,0,0,0,0,0,0,0,0,0,0,([]:Bytes)),0,0),false,0);have q:=aj9 r.mem hk (((0,0,0,0,0,0,0,0,0,0,0,0,0,0,0,([]:Bytes)),0,0),false,0) rfl (v:=v) h3.1 h3.2;generalize tO (bM 38) h.1 k=O at o1 o2 o3 q;obtain⟨hd,L,st⟩:=r.tx;refine⟨⟨rfl,o1,⟨hd,L,st.frame λi hi=>o3 i (by omega) (by omega)⟩,?_,λw hw=>?_,λj hj=>?_⟩,?_⟩;show(List.set _ _ _).length<=2/\(List.set _ _ _).length=(List.set _ _ _).length/\(_++[_]).length=(List.set _ _ _).length/\(_++[_]).length=(List.set _ _ _).length;simp only[aL,aq,bu];omega;rcases aB.1 hw with e|e;exact r.vec w e;rw[bq.1 e];exact h3.1;by_cases V1:j=k;subst V1;exact⟨_,_,v,false,XT l1 _ _,XT l2 _ _,VQ l3 v,VQ l4 false,q⟩;have hj2:iM j=1280+1792*j:=rfl;obtain⟨q',p',v',b',g1,g2,g3,g4,g5⟩:=r.rx j (by omega);exact⟨q',p',v',b',(acZ l1 (by omega) _ _).trans g1,(acZ l2 (by omega) _ _).trans g2,(ac0 l3 (by omega) v).trans g3,(ac0 l4 (by omega) false).trans g4,g5.frame λi h1 h2=>o3 i (by omega) (by omega)⟩;show(List.set _ _ _).length=_;simp only[aL,aq,bu];omega
theorem QU (f:Filter)(s:cX)(c:Bool):∀vs:ax Vector,vs.length<=2->(∀v∈vs,v.2.1<=3/\v.2.2.2.2.1=false)->NP (B5 f s c vs).2.2.2.1.length (B5 f s c vs)/\(B5 f s c vs).2.2.2.1.length=vs.length
 |[],_,_=>⟨aeY f s c,rfl⟩
 |v::vs,hl,hv=>by simp only[bp]at hl;have i:=QU f s c vs (by omega) λw hw=>hv w (by simp[hw]);have o:=afq (v:=v) i.1 (by omega) (hv v (by simp));grind[B5]
theorem adX {k:Host}(e:TF h=TF k)(f:Live Q k):Live Q h:=by obtain⟨a1,a2,a3,a4,a5,a6,a7,a8⟩:=h;obtain⟨b1,b2,b3,b4,b5,b6,b7,b8⟩:=k;unfold TF at e;simp only[Prod.mk.injEq]at e;obtain⟨rfl,rfl,rfl,rfl,rfl,rfl,rfl⟩:=e;exact⟨f.maps,f.mem,f.tx,f.rx⟩
theorem T5 (f:KM h):Live afi h:=by obtain⟨fl,s,c,vs,hl,e,hv⟩:=f.is;exact adX e (QU fl s c vs hl hv).1.new
theorem alf {a:dm}{k:Bool->aA Bool}(ht:k true=some true)(hk:a.length<=1048576->Ends (k false) (λb=>b=true)):Ends (aa (Ly a) k) (λb=>b=true):=by grind[Ly,ab,Ends.pure]
theorem Ends.true {o:aA Bool}(h:Ends o (λb=>b=true)):o=some true:=by obtain⟨x,h1,rfl⟩:=h;exact h1
theorem RU (l:bK)(h:l.length<=10^9):pF l l=some true:=by refine Ends.true ?_;unfold pF;rw[bne_self_eq_false,ae];refine Ends.zx (λx=>0<=x/\x<=(l.length:Int)) (λx=>((l.length:Int)-x).toNat) ⟨by omega,by omega⟩ (by omega) λx nx hx hn=>?_;grind[yo,Ends.pure,Ends.idx,ak]
theorem Te (l:dm)(h:l.length<=10^9):AA l l=some true:=by refine Ends.true ?_;unfold AA;rw[bne_self_eq_false,ae];refine Ends.zx (λx=>0<=x/\x<=(l.length:Int)) (λx=>((l.length:Int)-x).toNat) ⟨by omega,by omega⟩ (by omega) λx nx hx hn=>?_;grind[zM,Ends.pure,Ends.idx,ak]
theorem amw {a:dm}(ha:adM (.sl (.int .u8)) a)(hl:a.length<=1048576){i:Int}(h0:0<=i)(h1:i<=1000000):Ends (Lx a i) λx=>0<=x/\x<=255:=by
 unfold Lx;refine Ends.cond (λ_=>Ends.pure ⟨iH _,by omega⟩) λk=>?_;have k:((a.length:Int))≠0:=by simpa using k
 have m1:=Int.tmod_nonneg (a.length:Int) (a:=i*5+1) (by omega);have m2:=Int.tmod_lt_of_pos (i*5+1) (b:=(a.length:Int)) (by omega);rw[ak (n:=i*5) (by omega) (by omega),ak (n:=i*5+1) (by omega) (by omega)];refine Ends.ifn k (Ends.idx m1 m2 λhi=>Ends.pure ?_);have hx:0<=a[(Int.tmod (i*5+1) (a.length:Int)).toNat]/\a[(Int.tmod (i*5+1) (a.length:Int)).toNat]<=255:=ha.2 _ (bn hi);grind[ak]
def jr (h:Host):bK:=h.2.2.2.2.2.2.2.2.2.2.2.1
theorem W0 (k:Nat)(h:Host):∀n,jr (OT k n h)=jr h
 |0=>rfl
 |n+1=>by refine Eq.trans ?_ (W0 k h n);grind[jr,evS,OT]
theorem Z7 (k:Nat)(h:Host):jr (eH k h)=jr h:=by unfold eH;cases h.2.2.2.1[k]? with|none=>rfl|some x=>exact W0 k _ _
theorem acB (k:Nat)(h:Host):jr (jB k h)=jr h:=by unfold jB;cases h.2.2.2.2.2.1[k]?<;>rfl
theorem KF {g:Nat->Host->Host}(hg:∀k h,jr (g k h)=jr h)(h:Host):∀k,jr (dX g k h)=jr h
 |0=>rfl
 |k+1=>(hg k _).trans (KF hg h k)
theorem Sv (h:Host):jr (jh h)=jr h:=by grind[jh,KF,Z7]
theorem Vq (h:Host):jr (om h)=jr h:=by grind[om,KF,acB]
theorem Z8 (b:Int)(k:Nat)(s:Int×Host):jr (qL b k s).2=jr s.2:=by unfold qL;rcases s.2.2.2.2.2.2.1[k]? with _|v;rfl;rcases s.2.2.2.2.2.2.2.1[k]? with _|p;rfl;rcases s.2.2.2.2.1[k]? with _|x;rfl;rcases s.2.2.2.2.2.1[k]? with _|pl;rfl;simp only;cases p||(oJ v).2<;>rfl
theorem OO (b:Int)(h:Host):∀k,jr (gu b k h).2=jr h
 |0=>rfl
 |k+1=>(Z8 b k _).trans (OO b h k)
theorem Mz (h:Host)(b:Int):jr (gi h b).1=jr h:=by grind[gi,OO]
theorem ON (h:Host)(b:Int):∀k,jr (vw b k h)=jr h
 |0=>rfl
 |k+1=>(Mz _ b).trans ((Vq _).trans (ON h b k))
def Df (h:Host)(a:Act):Host×Int:=
 bif !eU h|| !Hr a then(h, -1) else
 bif a.1==0 then((vr h a.2.1 a.2.2.1 a.2.2.2.1).1,as8 (vr h a.2.1 a.2.2.1 a.2.2.2.1).2) else
 bif a.1==1 then(dj h,0) else
 bif a.1==2 then(iY h a.2.2.2.2.1,0) else
 bif a.1==3 then(jh h,0) else
 bif a.1==4 then(om h,0) else gi h a.2.2.2.2.2
def NoR (a:Act):Prop:=(0<=a.1/\a.1<=6)/\a.1≠6
theorem aa3 (h:Host)(a:Act)(k:BW 90000000 h)(hx:a.2.2.2.2.1.length<=10^9)(hn:NoR a):Gl h a=some (Df h a):=by
 have z:dF 1000000000 gY h:=k.z.mono;unfold Gl Df;rw[vG h (k.sz (by omega)),ab,ajL,ab];cases eU h;simp only[cA,af,lA,ab,kG h z];cases Hr a;simp only[aj,cA,af,ae,Bool.or_true,ab,kG h z];simp only[aj,ae,bN,ab,aeG h _ _ _ (k.mono),Lp h (k.mono),Wd h _ (k.mono) hx,Q4 h (k.mono),Yx h (k.sz (by omega)) z,Of h _ (k.mono)];cases e0:a.1==0;case true=>(simp only[af];cases (vr h a.2.1 a.2.2.1 a.2.2.2.1).2<;>rfl)
 grind[NoR]
theorem ab7 (h:Host)(a:Act)(k:BW 90000000 h)(hx:a.2.2.2.2.1.length<=10^9)(hn:NoR a):GL h a=some (Df h a):=by
 have z:dF 1000000000 gY h:=k.z.mono;unfold GL Df;rw[ry h (k.sz (by omega)),ab,ads,ab];cases eU h;simp only[cA,af,lA,ab,kL h z];cases Hr a;simp only[aj,cA,af,ae,Bool.or_true,ab,kL h z];simp only[aj,ae,bN,ab,af5 h _ _ _ (k.mono),Mi h (k.mono),WL h _ (k.mono) hx,R3 h (k.mono),ZM h (k.sz (by omega)) z,OE h _ (k.mono)];cases e0:a.1==0;case true=>(simp only[af];cases (vr h a.2.1 a.2.2.1 a.2.2.2.1).2<;>rfl)
 cases e1:a.1==1;all_goals grind[NoR]
theorem ajk {n:Nat}(hn:1000<=n)(a:Act)(k:BW n h):BW (n+645000) (Df h a).1:=by
 unfold Df;cases !eU h|| !Hr a;case true=>exact k.mono
 simp only[ae];cases a.1==0;case true=>exact(aiP hn _ _ _ k).mono
 cases a.1==1;case true=>exact(CQ (by omega) k).mono
 cases a.1==2;case true=>exact(Zk hn _ k).1.mono
 cases a.1==3;case true=>exact(IL hn k).mono
 cases a.1==4;case true=>exact(Mq hn k).mono
 exact(Oy hn _ k).mono
theorem aeh {n:Int}(hn:n<=700000000000)(g:Good n h)(a:Act):Good (n+641) (Df h a).1:=by
 unfold Df;cases !eU h|| !Hr a;case true=>exact g.mono
 simp only[ae];cases a.1==0;case true=>exact(aei g _ _ _).mono
 cases a.1==1;case true=>exact(EU g).mono
 cases a.1==2;case true=>exact VR hn g _
 cases a.1==3;case true=>exact(Ke hn g).mono
 cases a.1==4;case true=>exact(Fp g).mono
 exact(K3 g _).mono
def adA (s:Host×dm)(a:Act):Host×dm:=((Df s.1 a).1,s.2++[(Df s.1 a).2])
def runN (h:Host)(l:ax Act):Host×dm:=l.foldl adA (h,[])
theorem NA (h:Host)(l:ax Act)(i:Nat)(hi:i<l.length):runN h (l.take (i+1))=adA (runN h (l.take i)) l[i]:=by rw[bz hi,runN,List.foldl_append];rfl
theorem LZ {n:Nat}(hn:1000<=n)(k:BW n h)(l:ax Act):∀i,i<=l.length->BW (n+645000*i) (runN h (l.take i)).1/\(runN h (l.take i)).2.length=i
 |0,_=>⟨k,rfl⟩
 |i+1,hi=>by have g:=LZ hn k l i (by omega);rw[NA h l i (by omega)];refine⟨(ajk (by omega) (l[i]'(by omega)) g.1).mono,?_⟩;show(_++[_]).length=_;rw[aq,g.2];rfl
theorem ahS (hb:eU h=true)(hl:l.length<=40)(k:BW 50000000 h)(hx:∀a∈l,a.2.2.2.2.1.length<=10^9/\NoR a):Cq h l=some (runN h l):=by have zj:=dD;unfold Cq;rw[kG h (k.z.mono),ab,vG h (k.sz (by omega)),ab,hb,ie];simp only[aj,ae,ab,bN];refine dA (λi=>((runN h (l.take i)).2,(i:Int),(runN h (l.take i)).1)) l.length (by omega) (λi nx hi=>?_) (λnx=>?_);have g:=LZ (by omega) k l i (by omega);have x:=hx _ (bn hi);rw[NA h l i hi];generalize runN h (l.take i)=s at g⊢;simp only[wC];rw[kW,af,bw hi,ab,aa3 _ _ (g.1.mono) x.1 x.2,ab,bf (by rw[g.2,bu];omega),ak (by omega) (by omega)];rfl;simp only[wC];rw[ie,ae,cQ]
theorem ai3 (hb:eU h=true)(hl:l.length<=40)(k:BW 50000000 h)(hx:∀a∈l,a.2.2.2.2.1.length<=10^9/\NoR a):CE h l=some (runN h l):=by have zj:=dD;unfold CE;rw[kL h (k.z.mono),ab,ry h (k.sz (by omega)),ab,hb,ie];simp only[aj,ae,ab,bN];refine dA (λi=>((runN h (l.take i)).2,(i:Int),(runN h (l.take i)).1)) l.length (by omega) (λi nx hi=>?_) (λnx=>?_);have g:=LZ (by omega) k l i (by omega);have x:=hx _ (bn hi);rw[NA h l i hi];generalize runN h (l.take i)=s at g⊢;simp only[wM];rw[kW,af,bw hi,ab,ab7 _ _ (g.1.mono) x.1 x.2,ab,bf (by rw[g.2,bu];omega),ak (by omega) (by omega)];rfl;simp only[wM];rw[ie,ae,cQ]
theorem akm {n:Nat}(hn:1000<=n)(k:BW n h)(hl:l.length<=40):BW (n+25800000) (runN h l).1:=by have g:=LZ hn k l l.length (bc _);rw[cQ]at g;exact g.1.mono
abbrev ajD (W:ax PZ):bK:=W.flatMap λw=>EC w.1 w.2
def vm (sent:bK)(h:Host):Prop:=∃hd L W,W3 h.1 h.2.2.1 hd L/\Al h.1 h.2.2.1.2.2.1 W L/\sent=jr h++ajD W
theorem vm.same (w:vm sent h)(e1:h'.2.2.1=h.2.2.1)(e2:jr h'=jr h)(low:∀i,i<1280->mB h'.1 i=mB h.1 i):vm sent h':=by obtain⟨hd,L,W,s,al,e⟩:=w;refine⟨hd,L,W,by rw[e1];exact s.frame λi hi=>low i (by omega),by rw[e1];exact al.frame λb _ hr i _ h2=>low i (by omega),by rw[e2];exact e⟩
theorem acz {n:Int}(g:Good n h)(l:Live Q h)(w:vm sent h)(p:aH)(c z:Int):vm (sent++bif (vr h p c z).2 then EC p c else []) (vr h p c z).1:=by obtain⟨hd,L,W,s,al,e⟩:=w;obtain⟨L',s',al'⟩:=aiQ l.mem s g.tx al p c z;unfold vr;cases eU h with|false=>exact⟨hd,L,W,s,al,by grind⟩|true=>rw[l.maps];simp only[af];refine⟨hd,L',_,s',al',?_⟩;grind[jr]
theorem Iu {n:Int}(hn:n<=1000000000000)(g:Good n h)(l:Live Q h)(w:vm sent h):vm sent (dj h)/\jr (dj h)=sent:=by
 obtain⟨hd,L,W,s,al,e⟩:=w;have hl:=s.row.len;have MD:=VO L s.ch;have tc:=Vm l.mem _ W L hd 17 [] 0 0 al s.row (by omega);have ew:jr (dj h)=sent:=by unfold dj jr;rw[g.ok hn];simp only[af];show jr h++(oF h.2.1 h.1 0 h.2.2.1.1).2.1=sent;rw[l.maps,s.ring,e];exact congrArg (jr h++·) tc
 obtain⟨hw,HI,s'⟩:=JR g hn l.maps l.mem s;have e1:(dj h).1=h.1:=by grind[dj]
 refine⟨⟨HI,[],[],by rw[e1];exact s',by rw[hw];trivial,?_⟩,ew⟩;grind
theorem ahb (k:Nat)(h:Host):∀n,(OT k n h).1=h.1
 |0=>rfl
 |n+1=>by refine Eq.trans ?_ (ahb k h n);grind[evS,OT]
theorem Sx (h:Host)(k:Nat)(b:Int)(g:bK×aW):(qZ h k b g).1=g.1:=by unfold qZ;rw[ahb];rfl
theorem ae2 {n:Int}(hn:n<=400000000000)(g:Good n h)(l:Live Q h):∀i,i<1280->mB (jh h).1 i=mB h.1 i:=by
 have h2:=nt g;have key:∀k:Nat,k<=h.2.2.2.1.length->Good (n+320*(k:Int)) (dX eH k h)/\(dX eH k h).2.2.2.1.length=h.2.2.2.1.length/\Live F3 (dX eH k h)/\∀i,i<1280->mB (dX eH k h).1 i=mB h.1 i:=by
  intro k;induction k with
  |zero=>intro _;exact⟨g.mono,rfl,l.zn λ_ _ _ _ _ _ _=>trivial,λ_ _=>rfl⟩
  |succ k ih=>
   intro hk;obtain⟨i1,i2,i3,i4⟩:=ih (by omega);have st:=HZ (by omega) i1 i3 (k:=k);have gl:=Ej (by omega) i1 k;have e2:(eH k (dX eH k h)).2.2.2.1.length=(dX eH k h).2.2.2.1.length:=(nH k _).rx;refine⟨gl.mono (by push_cast;omega),e2.trans i2,st.zn λ_ _ _ _ _ _ _=>trivial,λi hi=>Eq.trans ?_ (i4 i hi)⟩;show mB (eH k (dX eH k h)).1 i=_;generalize dX eH k h=r at i1 i2 i3 i4⊢;obtain⟨q,p,v,b,g1,g2,g3,g4,hd,x,P,C,F,s,w1,w2,w3,_⟩:=i3.rx k (by omega);have rx:=i1.rx q (aX g1);have D5:iM k=1280+1792*k:=rfl;obtain⟨_,_,fl⟩:=zH i3.mem (by omega) s (rx.rx (by omega)) r.2.2.2.2.2.2.2.2.1.2.2.1 (Et i1);have e:eH k r=qZ r k q.2.1.2.2 (gy (bM 38) r.1 0 q r.2.2.2.2.2.2.2.2.1.2.2.1):=by unfold eH;rw[g1,i3.maps]
   rw[e,Sx];exact fl.out i (by omega) (by omega)
 grind[jh]
theorem YJ {n:Int}(hn:n<=1000000000000)(g:Good n h)(l:Live Q h)(b:Int):∀i,i<1280->mB (gi h b).1.1 i=mB h.1 i:=by
 cases hb:dV b 1 1000 with
 |false=>grind[gi]
 |true=>
  have hb:=aS.1 hb;obtain⟨c,rfl⟩:=au (show 0<=b by omega);have hc:1<=c/\c<=1000:=by omega
  have h2:=nt g;have key:∀k:Nat,k<=h.2.2.2.1.length->Good n (gu (c:Int) k h).2/\(gu (c:Int) k h).2.2.2.2.1.length=h.2.2.2.1.length/\Live F3 (gu (c:Int) k h).2/\∀i,i<1280->mB (gu (c:Int) k h).2.1 i=mB h.1 i:=by intro k;induction k with|zero=>intro _;exact⟨g,rfl,l.zn λ_ _ _ _ _ _ _=>trivial,λ_ _=>rfl⟩|succ k ih=>intro hk;obtain⟨i1,i2,i3,i4⟩:=ih (by omega);have st:=H0 (B:=F3) hn (gu (c:Int) k h).1 i1 i3 (k:=k) (by omega) hc (λC q v b q' v' b' _ _ _ _ _ _=>⟨λ_ _ _=>trivial,λ_ _ _=>trivial,λ_ _ _=>trivial⟩);refine⟨El (c:Int) k i1,((ED (c:Int) k _).rx).trans i2,st.zn λ_ _ _ _ _ _ _=>trivial,λi hi=>Eq.trans ?_ (i4 i hi)⟩;show mB (qL (c:Int) k (gu (c:Int) k h)).2.1 i=_;generalize gu (c:Int) k h=r at i1 i2 i3 i4⊢;obtain⟨t,r⟩:=r;simp only at i1 i2 i3 i4⊢;have D5:iM k=1280+1792*k:=rfl;obtain⟨q,p,v,b,g1,g2,g3,g4,hd,x,P,C,F,s,w1,w2,w3,_⟩:=i3.rx k (by omega);have rq:=(i1.rx q (aX g1)).rx hn;obtain⟨_,_,_,_,m5⟩:=IZ i3.mem (by omega) s rq r.2.2.2.2.2.2.2.2.2.1 (b:=c);unfold qL;simp only[g1,g2,g3,g4,i3.maps];grind
  grind[gi]
theorem ah5 (h:Host):(om h).1=h.1:=by
 have key:∀k,(dX jB k h).1=h.1:=by intro k;induction k with|zero=>rfl|succ k ih=>grind[jB,dX]
 grind[om]
theorem YI {n:Int}(hn:n<=400000000000)(g:Good n h)(f:Live Q h)(y:Bytes):(iY h y).2.2.1=h.2.2.1/\jr (iY h y)=jr h/\∀i,i<1280->mB (iY h y).1 i=mB h.1 i:=by
 have h2:=nt g;have c:∀a b c d,(po h a b c d).2.2.1=h.2.2.1/\jr (po h a b c d)=jr h/\∀i,i<1280->mB (po h a b c d).1 i=mB h.1 i:=λ_ _ _ _=>⟨rfl,rfl,λ_ _=>rfl⟩
 unfold iY;rw[g.ok (by omega)];simp only[aj,ae];cases (fF y).2 !=0;case true=>exact c _ _ _ _
 cases !kj h.2.2.2.2.2.2.2.1 (fF y).1;case true=>exact c _ _ _ _
 cases gA h.2.2.2.2.2.2.2.2.1 (h.2.2.2.1.length:Int) (fF y).1== -1;case true=>exact c _ _ _ _
 simp only[ae];generalize (gA h.2.2.2.2.2.2.2.2.1 (h.2.2.2.1.length:Int) (fF y).1).toNat=k;rcases hq:h.2.2.2.1[k]? with _|q;exact⟨rfl,rfl,λ_ _=>rfl⟩;simp only;obtain⟨hk,_⟩:=aD.1 hq;obtain⟨q',p,v,b,g1,g2,g3,g4,hd,x,P,C,F,s,w1,w2,w3,_⟩:=f.rx k hk;rw[hq]at g1;have g1:=bQ g1;subst g1;have D5:iM k=1280+1792*k:=rfl;obtain⟨_,_,_,fl⟩:=Ht f.mem (by omega) s (by omega) (g.rx q (aX hq)) h.2.2.2.2.2.2.2.2.1.2.2.1 (Et g) (fF y).1 h.2.2.2.2.2.2.2.2.2.2.1;rw[f.maps];refine⟨?_,?_,λi hi=>?_⟩;unfold qZ;exact(Hz k _ _).tx;exact W0 k _ _;rw[Sx];exact fl.out i (by omega) (by omega)
theorem Tt {n:Int}(hn:n<=400000000000)(g:Good n h)(l:Live Q h)(w:vm sent h)(y:Bytes):vm sent (iY h y):=by obtain⟨a,b,c⟩:=YI hn g l y;exact w.same a b c
theorem Z5 {n:Int}(hn:n<=400000000000)(g:Good n h)(l:Live Q h)(w:vm sent h):vm sent (jh h):=w.same (XP h) (Sv h) (ae2 hn g l)
theorem acA (w:vm sent h):vm sent (om h):=w.same (adH h) (Vq h) λi _=>by rw[ah5]
theorem Tu {n:Int}(hn:n<=1000000000000)(g:Good n h)(l:Live Q h)(w:vm sent h)(b:Int):vm sent (gi h b).1:=w.same (RZ h b) (Mz h b) (YJ hn g l b)
def Kv (a:Act)(v:Int):bK:=bif Hr a&&((a.1==0)&&(v==1)) then EC a.2.1 a.2.2.1 else []
theorem agu {n:Int}(hn:n<=400000000000)(g:Good n h)(l:Live Q h)(w:vm sent h)(a:Act):vm (sent++Kv a (Df h a).2) (Df h a).1:=by
 have no:∀v,(a.1==0)=false->sent++Kv a v=sent:=λv e=>by grind[Kv]
 unfold Df;rw[g.ok (by omega)];cases ha:Hr a with
 |false=>grind[Kv]
 |true=>
  simp only[aj,bN,ae];cases e0:a.1==0 with
  |true=>have ws:=acz g l w a.2.1 a.2.2.1 a.2.2.2.1;unfold Kv;rw[ha,e0];simp only[af,bH];cases hs:(vr h a.2.1 a.2.2.1 a.2.2.2.1).2 with|true=>rw[hs]at ws;exact ws|false=>rw[hs]at ws;exact ws
  |false=> ?_
  rw[no _ e0];cases e1:a.1==1;case true=>exact(Iu (by omega) g l w).1
  cases e2:a.1==2;case true=>exact Tt hn g l w _
  cases e3:a.1==3;case true=>exact Z5 hn g l w
  cases e4:a.1==4;case true=>exact acA w
  exact Tu (by omega) g l w _
theorem agv (t:∃hd,W3 h.1 h.2.2.1 hd [])(hw:h.2.2.1.2.2.1=[]):vm (jr h) h:=by obtain⟨hd,s⟩:=t;exact⟨hd,[],[],s,by rw[hw];trivial,(bg _).symm⟩
theorem WZ {n:Int}(hn:n<=300000000000)(g:Good n h)(l:Live Q h)(w:vm sent h){r:Nat}(hc:1<=c/\c<=1000)(hr:r<=200):jr (ku h (c:Int) (r:Int))=sent:=by unfold ku;rw[g.ok (by omega),aS.2 ⟨by omega,by omega⟩,aS.2 ⟨by omega,by omega⟩];simp only[du,af];rw[ON,Sv];exact(Iu (by omega) g l w).2
def iL (l:ax Stream)(f:Ad):aA Stream:=l.find? (atF f)
def E7 (p:aH)(s:Stream):Stream:=
 bif p.2.2.2.2.2.2.2.2.1==17 then(s.1,s.2.1,s.2.2.1++udp p,s.2.2.2) else
 bif lW p 2 then s else bif s.2.2.2||lW p 4 then s else bif decide (fI s p<=((body p).length:Int)) then Tp s p else s
def Ab (p:aH):aA Stream->aA Stream
 |none=>bif p.2.2.2.2.2.2.2.2.1==17 then some (dJ p,0,udp p,false) else bif lW p 2 then some (dJ p,Int.tmod (ar (p.2.2.2.2.2.2.2.2.2.2.2.1+1)) 4294967296,([]:Bytes),false) else none
 |some s=>some (E7 p s)
theorem ZU (p:aH)(s:Stream):(E7 p s).1=s.1:=by
 unfold E7;cases p.2.2.2.2.2.2.2.2.1==17;case true=>rfl
 cases lW p 2;case true=>rfl
 cases s.2.2.2||lW p 4;case true=>rfl
 cases decide (fI s p<=((body p).length:Int))<;>rfl
theorem Uw (A:ax Stream)(y:Stream)(B:ax Stream)(f:Ad):iL (A++y::B) f=(iL A f).or (if y.1=f then some y else iL B f):=by grind[iL,atF]
theorem Wh (hp:cC p=true)(l:ax Stream)(f:Ad):iL (jx l p) f=if dJ p=f then Ab p (iL l f) else iL l f:=by
 cases hi:l.findIdx? (atF (dJ p))with
 |none=>
  have hn:=List.findIdx?_eq_none_iff.1 hi;have hl:iL l (dJ p)=none:=List.find?_eq_none.2 λs hs=>by rw[hn s hs];simp
  have e:jx l p=match Ab p none with|some y=>l++[y]|none=>l:=by
   unfold jx Ab;rw[hp,hi];simp only[aj,ae];cases p.2.2.2.2.2.2.2.2.1==17;case true=>rfl
   cases lW p 2<;>rfl
  have hy:∀y,Ab p none=some y->y.1=dJ p:=by intro y hy;unfold Ab at hy;cases h17:p.2.2.2.2.2.2.2.2.1==17 with|true=>rw[h17]at hy;rw[<-bQ hy]|false=>rw[h17]at hy;cases h2:lW p 2 with|true=>rw[h2]at hy;rw[<-bQ hy]|false=>rw[h2]at hy;cases hy
  rw[e];cases ho:Ab p none with|none=>by_cases ef:dJ p=f;rw[aI ef,<-ef,hl,ho];rw[aK ef]|some y=>have h1:=hy y ho;show iL (l++y::[]) f=_;rw[Uw,h1];by_cases ef:dJ p=f;rw[aI ef,aI ef,<-ef,hl,ho];rfl;rw[aK ef,aK ef];show(iL l f).or none=_;cases iL l f<;>rfl
 |some i=>
  obtain⟨iA,h1,h2⟩:=List.findIdx?_eq_some_iff_getElem.1 hi;have hd:l.getD i WR=l[i]:=fD iA WR;have e:jx l p=l.set i (E7 p l[i]):=by
   have same:l=l.set i l[i]:=(List.set_getElem_self iA).symm;unfold jx E7;rw[hp,hi];simp only[aj,ae,hd];cases p.2.2.2.2.2.2.2.2.1==17;case true=>rfl
   cases lW p 2;case true=>exact same
   cases l[i].2.2.2||lW p 4;case true=>exact same
   cases decide (fI l[i] p<=((body p).length:Int))with|true=>rfl|false=>exact same
  have hs:∀y,l.set i y=l.take i++y::l.drop (i+1):=λy=>by rw[List.set_eq_take_append_cons_drop,aI iA]
  have hl:l=l.take i++l[i]::l.drop (i+1):=(List.set_getElem_self iA).symm.trans (hs _);have f1:l[i].1=dJ p:=bS h1;have ht:iL (l.take i) (dJ p)=none:=List.find?_eq_none.2 λs hs=>by obtain⟨j,hj⟩:=List.getElem?_of_mem hs;obtain⟨hjl,ej⟩:=aD.1 hj;rw[bt]at hjl;have:=h2 j (by omega);rw[<-ej,List.getElem_take];exact this
  have key:∀y:Stream,y.1=dJ p->iL (l.take i++y::l.drop (i+1)) f=if dJ p=f then some y else(iL (l.take i) f).or (iL (l.drop (i+1)) f):=by intro y hy;rw[Uw,hy];by_cases ef:dJ p=f;rw[aI ef,aI ef,<-ef,ht];rfl;rw[aK ef,aK ef]
  have k0:=key l[i] f1;rw[<-hl]at k0;rw[e,hs,key _ ((ZU p l[i]).trans f1),k0];by_cases ef:dJ p=f;rw[aI ef,aI ef,aI ef];rfl;rw[aK ef,aK ef,aK ef]
def E5 (f:Ad)(o:aA Stream)(p:aH):aA Stream:=if dJ p=f then Ab p o else o
def Ct (f:Ad)(o:aA Stream)(l:ax aH):aA Stream:=l.foldl (E5 f) o
theorem DL (f:Ad)(o:aA Stream)(a b:ax aH):Ct f o (a++b)=Ct f (Ct f o a) b:=List.foldl_append ..
theorem UY (f:Ad)(o:aA Stream)(p:aH)(b:ax aH):Ct f o (p::b)=Ct f (E5 f o p) b:=rfl
theorem Wz {f:Ad}:∀(l:ax aH)(o:aA Stream),(∀p∈l,dJ p≠f)->Ct f o l=o
 |[],o,_=>rfl
 |p::l,o,h=>by rw[UY,E5,aK (h p List.mem_cons_self)];exact Wz l o λq hq=>h q (cc _ hq)
theorem Uy (hp:cC p=true)(l:ax Stream)(f:Ad):iL (jx l p) f=E5 f (iL l f) p:=Wh hp l f
theorem P7 {b:Int}{n:Int}(h:p.2.2.2.2.2.2.2.2.2.2.2.2.2.1=n):lW p b=(ar (BitVec.toNat (gm n&&&gm b)) !=0):=by unfold lW;rw[h]
theorem aaL (h:ET p.2.2.2.2.2.2.2.2.2.2.2.2.2.1=true):lW p 2=false/\lW p 4=false:=by simp only[ET,dE,bD]at h;rcases h with((h|h)|h)|h<;>rw[P7 h,P7 h]<;>decide
theorem agJ (h:p.2.2.2.2.2.2.2.2.2.2.2.2.2.1=16):lW p 1=false/\lW p 2=false/\lW p 4=false:=by rw[P7 h,P7 h,P7 h];decide
theorem DY (k:(p.2.2.2.2.2.2.2.2.1==17)=false)(b2:lW p 2=false)(b4:lW p 4=false)(t:Stream):E7 p t=bif t.2.2.2 then t else bif decide (fI t p<=((body p).length:Int)) then Tp t p else t:=by grind[E7]
theorem agq (h:EP s p=true)(f:Ad)(o:aA Stream):E5 f (E5 f o s.1) p=E5 f o (sU s p).1:=by
 have hc:=h;simp only[EP,X0,LM,Oz,akp,ah,bD,bE]at hc;obtain⟨⟨hs,hp,⟨_,_,_,_,_,p6,p7,p8,p9,p10,_⟩,h6,MD,hfl⟩,⟨_,_,_,hlen,asZ⟩,ajJ,_⟩:=hc;have e:(sU s p).1=(s.1.1,s.1.2.1,s.1.2.2.1,s.1.2.2.2.1,s.1.2.2.2.2.1,s.1.2.2.2.2.2.1,s.1.2.2.2.2.2.2.1,s.1.2.2.2.2.2.2.2.1,s.1.2.2.2.2.2.2.2.2.1,s.1.2.2.2.2.2.2.2.2.2.1,s.1.2.2.2.2.2.2.2.2.2.2.1,s.1.2.2.2.2.2.2.2.2.2.2.2.1,s.1.2.2.2.2.2.2.2.2.2.2.2.2.1,p.2.2.2.2.2.2.2.2.2.2.2.2.2.1,s.1.2.2.2.2.2.2.2.2.2.2.2.2.2.2.1,s.1.2.2.2.2.2.2.2.2.2.2.2.2.2.2.2++p.2.2.2.2.2.2.2.2.2.2.2.2.2.2.2):=by unfold sU;rw[h];rfl
 generalize (sU s p).1=j at e;have fj:dJ j=dJ s.1:=by rw[e];rfl
 have fp:dJ p=dJ s.1:=by unfold dJ;rw[p6,p7,p8,p9,p10]
 unfold E5;rw[fj,fp];by_cases ef:dJ s.1=f;rw[aI ef,aI ef,aI ef];have k6:(s.1.2.2.2.2.2.2.2.2.1==17)=false:=by rw[p8,h6];rfl
 have q6:(p.2.2.2.2.2.2.2.2.1==17)=false:=by rw[h6];rfl
 have j6:(j.2.2.2.2.2.2.2.2.1==17)=false:=by rw[e];exact k6
 have sb:=agJ MD;have pb:=aaL hfl;have jb:∀b,lW j b=lW p b:=λb=>by rw[e];rfl
 cases o with
 |none=>
  show Ab p (Ab s.1 none)=Ab j none;have e1:Ab s.1 none=none:=by unfold Ab;rw[k6,sb.2.1];rfl
  rw[e1];unfold Ab;rw[q6,pb.1,j6,jb,pb.1];rfl
 |some t=>
  show some (E7 p (E7 s.1 t))=some (E7 j t);congr 1;have bl:body j=body s.1++body p:=by rw[e];rfl
  have js:j.2.2.2.2.2.2.2.2.2.2.2.1=s.1.2.2.2.2.2.2.2.2.2.2.2.1:=by rw[e]
  have al0:(body j).length=(body s.1).length+(body p).length:=by rw[bl,aq]
  have hl1:(body s.1).length+(body p).length<=320:=by have:(s.1.2.2.2.2.2.2.2.2.2.2.2.2.2.2.2.length:Int)+(p.2.2.2.2.2.2.2.2.2.2.2.2.2.2.2.length:Int)<=320:=asZ;show s.1.2.2.2.2.2.2.2.2.2.2.2.2.2.2.2.length+p.2.2.2.2.2.2.2.2.2.2.2.2.2.2.2.length<=320;omega
  have seg:=xP (show sI s.1=true by simp only[cC,ah]at hs;exact hs.1);have sq:0<=s.1.2.2.2.2.2.2.2.2.2.2.2.1/\s.1.2.2.2.2.2.2.2.2.2.2.2.1<=4294967295:=by unfold ru at seg;rw[show(s.1.2.2.2.2.2.2.2.2.1==17)=false from k6]at seg;simp only[ae,ah,aS]at seg;exact seg.2.2.2.2.1
  have akY:p.2.2.2.2.2.2.2.2.2.2.2.1=(s.1.2.2.2.2.2.2.2.2.2.2.2.1+((body s.1).length:Int))%4294967296:=by rw[ajJ];show Int.tmod (ar (s.1.2.2.2.2.2.2.2.2.2.2.2.1+((body s.1).length:Int))) 4294967296=_;rw[ak (by omega) (by omega),eM (by omega)]
  rw[DY k6 sb.2.1 sb.2.2 t,DY j6 ((jb 2).trans pb.1) ((jb 4).trans pb.2) t];cases hd:t.2.2.2 with
  |true=>rw[af,af,DY q6 pb.1 pb.2,hd,af]
  |false=>
   rw[ae,ae];have a0:fI t s.1=(t.2.1-s.1.2.2.2.2.2.2.2.2.2.2.2.1)%4294967296:=rfl;have a1:fI t j=fI t s.1:=by unfold fI;rw[js]
   have ai:=PX t s.1;rw[a1,al0];by_cases h1:fI t s.1<=((body s.1).length:Int)
   rw[az h1,af,az (show fI t s.1<=(((body s.1).length+(body p).length:Nat):Int) by omega),af,DY q6 pb.1 pb.2];have d1:(Tp t s.1).2.2.2=false:=sb.1;have a2:fI (Tp t s.1) p=0:=by show((t.2.1+((body s.1).length:Int)-fI t s.1)%4294967296-p.2.2.2.2.2.2.2.2.2.2.2.1)%4294967296=0;rw[akY];omega
   rw[d1,ae,a2,kW,af];show(t.1,((t.2.1+((body s.1).length:Int)-fI t s.1)%4294967296+((body p).length:Int)-fI (Tp t s.1) p)%4294967296,(t.2.2.1++(body s.1).drop (fI t s.1).toNat)++(body p).drop (fI (Tp t s.1) p).toNat,lW p 1)=(t.1,(t.2.1+((body j).length:Int)-fI t j)%4294967296,t.2.2.1++(body j).drop (fI t j).toNat,lW j 1)
   rw[a2,a1,jb,al0,bl,List.drop_append_of_le_length (by omega),aG];refine Prod.ext rfl (Prod.ext ?_ rfl);show((t.2.1+((body s.1).length:Int)-fI t s.1)%4294967296+((body p).length:Int)-0)%4294967296=(t.2.1+(((body s.1).length+(body p).length:Nat):Int)-fI t s.1)%4294967296;omega;rw[aw h1,ae,DY q6 pb.1 pb.2,hd,ae];have a2:fI t p=(fI t s.1-((body s.1).length:Int)):=by show(t.2.1-p.2.2.2.2.2.2.2.2.2.2.2.1)%4294967296=_;rw[akY];omega
   rw[a2];by_cases h2:fI t s.1<=(((body s.1).length+(body p).length:Nat):Int)
   rw[az h2,az (show fI t s.1-((body s.1).length:Int)<=((body p).length:Int) by omega),af,af];show(t.1,(t.2.1+((body p).length:Int)-fI t p)%4294967296,t.2.2.1++(body p).drop (fI t p).toNat,lW p 1)=(t.1,(t.2.1+((body j).length:Int)-fI t j)%4294967296,t.2.2.1++(body j).drop (fI t j).toNat,lW j 1)
   rw[a2,a1,jb,al0,bl];refine Prod.ext rfl (Prod.ext ?_ (Prod.ext ?_ rfl));show(t.2.1+((body p).length:Int)-(fI t s.1-((body s.1).length:Int)))%4294967296=(t.2.1+(((body s.1).length+(body p).length:Nat):Int)-fI t s.1)%4294967296;omega;show t.2.2.1++(body p).drop (fI t s.1-((body s.1).length:Int)).toNat=t.2.2.1++(body s.1++body p).drop (fI t s.1).toNat;rw[List.drop_append];rw[cW (show(body s.1).length<=(fI t s.1).toNat by omega),bU];congr 2;omega;rw[aw h2,aw (show¬fI t s.1-((body s.1).length:Int)<=((body p).length:Int) by omega)];rfl
 rw[aK ef,aK ef,aK ef]
abbrev CW:=Ho×aH
def SH (m:bK)(k:Nat)(D:ax CW):Prop:=∀c∈D,cC c.2=true/\c.1.2.1=((dv c.2).1.length:Int)/\tS m (iM k+128+384*c.1.1.toNat) (dv c.2).1.length=(dv c.2).1
theorem SH.frame {m':bK}{D:ax CW}(h:SH m k D)(f:∀c∈D,∀i,iM k+128+384*c.1.1.toNat<=i->i<iM k+512+384*c.1.1.toNat->mB m' i=mB m i):SH m' k D:=λc hc=>by have hi:=nv c.2;exact⟨(h c hc).1,(h c hc).2.1,by rw[xg λj hj=>f c hc _ (by omega) (by omega)];exact(h c hc).2.2⟩
def QD (m:bK)(k:Nat)(q:aW)(p:dq)(D:ax CW):Prop:=(∃hd x P F,Iy m k q p hd x P (D.map (·.1)) F)/\SH m k D
theorem QD.alj {q:aW}{p:dq}{D:ax CW}{x:Nat}(s:Iy m k q p hd x P (D.map (·.1)) F){c:CW}(hc:c∈D):c.1.1.toNat∈NV (D.map (·.1)):=by grind
theorem QD.frame {m':bK}{q:aW}{p:dq}{D:ax CW}(s:QD m k q p D)(h:∀i,iM k<=i->i<iM k+1792->mB m' i=mB m i):QD m' k q p D:=by obtain⟨⟨hd,x,P,F,s⟩,c⟩:=s;refine⟨⟨hd,x,P,F,s.frame λi h1 h2=>h i h1 (by omega)⟩,c.frame λy hy i h1 h2=>h i (by omega) ?_⟩;have:=s.lt (c:=y.1.1.toNat) (by grind);omega
theorem QD.held {q:aW}{p:dq}{D:ax CW}(s:QD m k q p D)(u:lJ×Bool×Int):QD m k (q.1,q.2.1,q.2.2.1,u) p D:=by obtain⟨⟨hd,x,P,F,s⟩,c⟩:=s;exact⟨⟨hd,x,P,F,s.held u⟩,c⟩
theorem agj (hm:fA m)(hk:k<=1){q:aW}{p:dq}{x:Nat}{C:ax Ho}(s:Iy m k q p hd x (c::P) C F)(hq:FP q=true)(hh:q.2.2.2.2.1=true)(key:Bytes)(Hi:key.length=16): ∃y:Ho,y.1=(c:Int)/\y.2.1=((dv q.2.2.2.1.1).1.length:Int)/\(gM (bM 38) m 0 q key (gJ (xM k c))).2=(zh (iM k+64) (x+C.length+1),true)/\fA (gM (bM 38) m 0 q key (gJ (xM k c))).1/\PL (gM (bM 38) m 0 q key (gJ (xM k c))).1 (iM k+64) x (C++[y])/\tS (gM (bM 38) m 0 q key (gJ (xM k c))).1 (iM k+128+384*c) (dv q.2.2.2.1.1).1.length=(dv q.2.2.2.1.1).1/\∀i,i<4864->(i<iM k+64\/iM k+128<=i)->(i<iM k+128+384*c\/iM k+512+384*c<=i)->mB (gM (bM 38) m 0 q key (gJ (xM k c))).1 i=mB m i:=by
 have hc:c<4:=s.lt (by simp);have hl:=s.len;simp only[bp]at hl;have db:=nu (VB hk hc);have r:=(Ib _).1 hq;have hs:=r.held hh;have hi:=nv q.2.2.2.1.1;have hn:iM k=1280+1792*k:=rfl;have pf:=DJ hm (a:=iM k+128+384*c) (s:=(dv q.2.2.2.1.1).1) (w:=true) (by omega) (by omega) (λ_=>by omega);generalize hy:(((c:Int),((dv q.2.2.2.1.1).1.length:Int),q.2.2.2.1.2.1,q.2.2.2.1.2.2,xn key (tD (dJ q.2.2.2.1.1))):Ho)=y;have ok:vu y=true:=by grind[vu,aS,XX,T7]
 have cm:=s.com.frame (m':=(jF (bM 38) m 0 ((iM k+128+384*c:Nat):Int) (dv q.2.2.2.1.1).1 true).1) λi h1 h2=>by grind
 have pc:=UM pf.2.1 (b:=iM k+64) (by omega) cm (by omega) ok;have eA:(xM k c).2.2.2.1=((iM k+128+384*c:Nat):Int):=rfl;have eL:(xM k c).2.2.1=384:=rfl;have eC:(xM k c).2.2.2.2.2=(c:Int):=rfl;have e:gM (bM 38) m 0 q key (gJ (xM k c))=rr (bM 38) (jF (bM 38) m 0 ((iM k+128+384*c:Nat):Int) (dv q.2.2.2.1.1).1 true).1 0 (zh (iM k+64) (x+C.length)) y:=by rw[Vg db.2 rfl (by rw[eL];omega) (by rw[eA];exact pf.1),eA,eC,s.dev,hy]
 grind[LX]
def xo (q:aW):ax aH:=bif q.2.2.2.2.1 then [q.2.2.2.1.1] else []
def vp (D:ax CW)(q:aW):ax aH:=D.map (·.2)++xo q
def Adv (e:ax aH)(D:ax CW)(q:aW)(D':ax CW)(q':aW):Prop:=
 (∀w∈vp D' q',cC w=true/\∃v∈vp D q++e,dJ v=dJ w)/\(q.2.2.2.2.2<q'.2.2.2.2.2\/q'.2.2.2.2.2=q.2.2.2.2.2/\∀f o,Ct f o (vp D' q')=Ct f o (vp D q++e))
theorem Adv.trans {e':ax aH}{D D1 D2:ax CW}{q q1 q2:aW}(a:Adv e D q D1 q1)(b:Adv e' D1 q1 D2 q2):Adv (e++e') D q D2 q2:=by refine⟨λw hw=>?_,?_⟩;obtain⟨h1,v,hv,hf⟩:=b.1 w hw;refine⟨h1,?_⟩;rcases aB.1 hv with g|g;obtain⟨_,u,hu,F1⟩:=a.1 v g;exact⟨u,by rw[<-aG];exact aU _ hu,F1.trans hf⟩;exact⟨v,by rw[<-aG];exact bj _ g,hf⟩;rcases b.2 with g|⟨g1,g2⟩;exact Or.inl (by rcases a.2 with h|⟨h1,h2⟩<;>omega);rcases a.2 with h|⟨h1,h2⟩;exact Or.inl (by rw[g1];exact h);refine Or.inr ⟨g1.trans h1,λf o=>?_⟩;rw[g2,DL,h2,<-DL,aG]
theorem F8 {D:ax CW}(h:SH m k D):∀w∈D.map (·.2),cC w=true:=by intro w hw;obtain⟨c,hc,rfl⟩:=dZ.1 hw;exact(h c hc).1
theorem RD {D:ax CW}(h:SH m k D){n:Int}{q:aW}(hq:zg n q):∀w∈vp D q,cC w=true:=by intro w hw;rcases aB.1 hw with g|g;exact F8 h w g;unfold xo at g;cases hh:q.2.2.2.2.1 with|false=>rw[hh]at g;cases g|true=>rw[hh]at g;rw[bq.1 g];exact(hq.held hh).1
theorem Adv.same {D:ax CW}(h:SH m k D){n:Int}{q:aW}(hq:zg n q):Adv [] D q D q:=⟨λw hw=>⟨RD h hq w hw,w,aU _ hw,rfl⟩,Or.inr ⟨rfl,λf o=>by rw[bg]⟩⟩
theorem MV (hm:fA m)(hk:k<=1){q:aW}{p:dq}{D:ax CW}(s:QD m k q p D)(hN:N<=500000000000)(hq:zg N q)(key:Bytes)(Hi:key.length=16):∃D',QD (gy (bM 38) m 0 q key).1 k (gy (bM 38) m 0 q key).2 p D'/\Adv [] D q D' (gy (bM 38) m 0 q key).2:=by
 have hn:iM k=1280+1792*k:=rfl;have Pw:FP q=true:=(Ib _).2 (hq.mono);obtain⟨⟨hd,x,P,F,s⟩,ct⟩:=s;unfold gy;rw[Pw,Hi];cases hh:q.2.2.2.2.1 with
 |false=>exact⟨D,⟨⟨hd,x,P,F,s⟩,ct⟩,Adv.same ct hq⟩
 |true=>
  have hs:=hq.held hh;have el:xo q=[q.2.2.2.1.1]:=by unfold xo;rw[hh];rfl
  simp only[aj,cM,show(((16:Nat):Int) !=16)=false from rfl,ae];cases P with
  |nil=>
   have t:=Vk (m:=m) (b:=iM k) (S:=4) (hd:=hd) (Or.inl rfl);have e:bI (bM 38) m 0 q.1=([],q.1,false):=by rw[s.ring];exact t
   rw[e];have hd0:=hq.drop;refine⟨D,⟨⟨hd,x,[],F,s.held _⟩,ct⟩,λw hw=>?_,Or.inl ?_⟩;have hw:w∈D.map (·.2)++[]:=hw;rw[bg]at hw;exact⟨F8 ct w hw,w,aU _ (aU _ hw),rfl⟩;show q.2.2.2.2.2<ar (q.2.2.2.2.2+q.2.2.2.1.2.2);rw[ak (by omega) (by omega)];omega
  |cons c P=>
   have t:=Dc hm (b:=iM k) (S:=4) (Or.inl rfl) (by omega) (show qp m (iM k) 4 hd (gJ (xM k c)::P.map λc=>gJ (xM k c)) from s.row);have e:bI (bM 38) m 0 q.1=(gJ (xM k c),fJ (iM k) 4 (hd+1) P.length,true):=by rw[s.ring];have:=t.1;rw[bX]at this;exact this
   obtain⟨y,y1,y0,y2,y3,y4,yr,y5⟩:=agj hm hk s Pw hh key Hi;have hc4:c<4:=s.lt (by simp);have nd:=Kq s.perm;rw[aG]at nd;have Fs:∀z∈D,z.1.1.toNat≠c:=λz hz e=>(aN.1 nd).2.2 _ (QD.alj s hz) c (by simp) e;rw[e,y2];simp only[du,af];refine⟨D++[(y,q.2.2.2.1.1)],⟨⟨hd+1,x,P,F,⟨rfl,?_,by simp;rfl,s.TM,by rw[cS];exact y4,s.pool,?_,λz hz=>?_⟩⟩,λz hz=>?_⟩,λw hw=>?_,Or.inr ⟨rfl,λf o=>?_⟩⟩;exact t.2.frame (Or.inl rfl) λi h1 h2=>y5 i (by omega) (by omega) (by omega);refine List.Perm.trans ?_ s.perm;have ey:y.1.toNat=c:=by rw[y1];simp
   simp only[NV,cS,fb,List.map_nil,ey,aG,ig,bU];exact List.Perm.refl _;rw[cS]at hz;rcases aB.1 hz with g|g;exact s.cok z g;rw[bq.1 g];show 0<=y.1;rw[y1];omega;rcases aB.1 hz with g|g;have c0:=ct z g;have:=nv z.2;have lt:=s.lt (c:=z.1.1.toNat) (by simp only[aG];exact aU _ (QD.alj s g));have ne:=Fs z g;exact⟨c0.1,c0.2.1,(xg λj hj=>y5 _ (by omega) (by omega) (by omega)).trans c0.2.2⟩;rw[bq.1 g];refine⟨hs.1,y0,?_⟩;have ey:y.1.toNat=c:=by rw[y1];simp
   show tS _ (iM k+128+384*y.1.toNat) _=_;rw[ey];exact yr;have hw:w∈(D++[(y,q.2.2.2.1.1)]).map (·.2)++[]:=hw;rw[bg,cS]at hw;have hw:w∈vp D q:=by unfold vp;rw[el];exact hw
   exact⟨RD ct hq w hw,w,aU _ hw,rfl⟩;show Ct f o ((D++[(y,q.2.2.2.1.1)]).map (·.2)++[])=Ct f o (vp D q++[]);unfold vp;rw[el,bg,bg,cS];rfl
theorem aaN (l:ax aE)(m:bK)(q:aW)(key:Bytes)(hq:FP q=true)(Hi:key.length=16):(gy l m 0 q key).2.2.2.2.2.1=false:=by unfold gy;grind
theorem aht {q:aW}{p:dq}{D:ax CW}(s:QD m k q p D)(hq:zg N q)(hh:q.2.2.2.2.1=false){w:aH}(hw:gI w=true):QD m k (Jx q (kA w)) p D/\Adv [w] D q D (Jx q (kA w)):=by
 refine⟨s.held _,λv hv=>?_,Or.inr ⟨rfl,λf o=>?_⟩⟩;have el:xo q=[]:=by unfold xo;rw[hh];rfl
 have hv:v∈D.map (·.2)++[w]:=hv;rcases aB.1 hv with g|g;exact⟨F8 s.2 v g,v,aU _ (aU _ g),rfl⟩;rw[bq.1 g];exact⟨(I6 hw).1,w,by simp,rfl⟩;have el:xo q=[]:=by unfold xo;rw[hh];rfl
 show Ct f o (D.map (·.2)++[w])=Ct f o (vp D q++[w]);unfold vp;rw[el,bg]
theorem aeS (h:EP s p=true):dJ (sU s p).1=dJ s.1:=by unfold sU;rw[h];rfl
theorem aak (hm:fA m)(hk:k<=1){q:aW}{p:dq}{D:ax CW}(s:QD m k q p D)(hN:N<=400000000000)(hq:zg N q)(key:Bytes)(Hi:key.length=16){w:aH}(hw:gI w=true)(c:Bool):∃D',QD (iE (bM 38) m 0 q key w c).1 k (iE (bM 38) m 0 q key w c).2 p D'/\Adv [w] D q D' (iE (bM 38) m 0 q key w c).2:=by
 have Pw:FP q=true:=(Ib _).2 (hq.mono);have ml:fA m:=hm;unfold iE;rw[Pw,Hi,hw];simp only[aj,cM,show(((16:Nat):Int) !=16)=false from rfl,ae];cases hj:c&&(q.2.2.2.2.1&&EP q.2.2.2.1 w)with
 |true=>
  simp only[ah]at hj;have fj:=agq hj.2.2;have el:xo q=[q.2.2.2.1.1]:=by unfold xo;rw[hj.2.1];rfl
  have sj:cC (sU q.2.2.2.1 w).1=true/\dJ (sU q.2.2.2.1 w).1=dJ q.2.2.2.1.1:=⟨(ada hj.2.2).1,aeS hj.2.2⟩
  have el2:xo (q.1,q.2.1,q.2.2.1,sU q.2.2.2.1 w,q.2.2.2.2)=[(sU q.2.2.2.1 w).1]:=by unfold xo;simp only[hj.2.1];rfl
  refine⟨D,s.held _,λv hv=>?_,Or.inr ⟨rfl,λf o=>?_⟩⟩;have hv:v∈D.map (·.2)++xo (q.1,q.2.1,q.2.2.1,sU q.2.2.2.1 w,q.2.2.2.2):=hv;rw[el2]at hv;rcases aB.1 hv with g|g;exact⟨F8 s.2 v g,v,aU _ (aU _ g),rfl⟩;rw[bq.1 g];exact⟨sj.1,q.2.2.2.1.1,by unfold vp;rw[el];simp,sj.2.symm⟩;show Ct f o (D.map (·.2)++xo (q.1,q.2.1,q.2.2.1,sU q.2.2.2.1 w,q.2.2.2.2))=Ct f o ((D.map (·.2)++xo q)++[w]);rw[el2,el,DL,DL,DL];exact(fj f _).symm
 |false=>simp only[ae];obtain⟨D1,s1,a1⟩:=MV hm hk s (by omega) hq key Hi;have fr:=aaN (bM 38) m q key Pw Hi;have k1:=(Dl (by omega) hq hm.ok (bM 38) 0 key).2;obtain⟨s2,a2⟩:=aht s1 k1 fr hw;obtain⟨⟨hd,x,P,F,s0⟩,_⟩:=s;obtain⟨_,_,fl⟩:=zH hm hk s0 Pw key Hi;have f0:=fl.mem;cases c with|true=>exact⟨D1,s2,a1.trans a2⟩|false=>have so:=I6 hw;have k2:=VW k1 so.1 so.2.1 so.2.2;obtain⟨D3,s3,a3⟩:=MV f0 hk s2 (by omega) k2 key Hi;exact⟨D3,s3,(a1.trans a2).trans a3⟩
theorem afD (hm:fA m)(hk:k<=1){s:ax Stream×aW×dq}{x:Nat}{c:CW}{D:ax CW}(r:Iy m k s.2.1 s.2.2 hd x P (c.1::D.map (·.1)) F)(ct:SH m k (c::D)):(tP (bM 38) m 0 s).1=jx s.1 c.2:=by
 have hn:iM k=1280+1792*k:=rfl;have nx:=No hm (b:=iM k+64) (by omega) r.com;have en:kC (bM 38) m 0 s.2.1.2.2.1=(c.1,zh (iM k+64) (x+1),true):=by rw[r.TM];exact nx.1
 have hc:((c.1.1.toNat:Nat):Int)=c.1.1:=Int.toNat_of_nonneg (r.cok c.1 (by simp));have lt:c.1.1.toNat<4:=r.lt (by simp[NV]);have hp:=r.Y7 hk;rw[r.pool]at hp;have ba:=acQ hk hp lt;rw[hc]at ba;have c0:=ct c List.mem_cons_self;have hi:=nv c.2;have d:=Hx hm (a:=iM k+128+384*c.1.1.toNat) (r:=(dv c.2).1.length);rw[c0.2.2]at d;unfold tP;rw[en];simp only;rw[r.pool,ba,c0.2.1];grind[aaS,Kh]
theorem UL (hm:fA m)(hk:k<=1):∀(n:Nat)(s:ax Stream×aW×dq)(x:Nat)(D:ax CW)(F:fi),Iy m k s.2.1 s.2.2 hd x P (D.map (·.1)) F->SH m k D->(il (bM 38) m 0 n s).2.1=((D.take n).map (·.2)).foldl jx s.1
 |0,s,x,D,F,r,_=>by rw[List.take_zero];rfl
 |n+1,s,x,[],F,r,_=>by
  have hn:iM k=1280+1792*k:=rfl;have nx:=Np hm (b:=iM k+64) (by omega) r.com;have en:(kC (bM 38) m 0 s.2.1.2.2.1).2.2=false:=by rw[r.TM,nx]
  rw[il,en];rfl
 |n+1,s,x,c::D,F,r,ct=>by have ps:=RI hm hk r;have pc:=afD hm hk r ct;have ih:=UL hm hk n (tP (bM 38) m 0 s) (x+1) D _ ps.2.1 λy hy=>ct y (cc _ hy);grind[il]
theorem aiw (hm:fA m)(hk:k<=1){q:aW}{p:dq}{D:ax CW}(s:QD m k q p D)(hq:FP q=true)(st:ax Stream){b:Nat}(hb:b<=1000): QD (gP (bM 38) m 0 q p st (b:Int)).1 k (gP (bM 38) m 0 q p st (b:Int)).2.1 (gP (bM 38) m 0 q p st (b:Int)).2.2.1 (D.drop b)/\(gP (bM 38) m 0 q p st (b:Int)).2.2.2.1=((D.take b).map (·.2)).foldl jx st/\(gP (bM 38) m 0 q p st (b:Int)).2.1.2.2.2=q.2.2.2:=by obtain⟨⟨hd,x,P,F,s⟩,ct⟩:=s;have hp:=s.Y7 hk;have pl:=Ks hm hk b (st,q,p) x _ F s;have pc:=UL hm hk b (st,q,p) x D F s ct;have pf:=IZ hm hk s hq st hb;obtain⟨l1,l2,F',sf⟩:=pl;obtain⟨f1,⟨x',P',f2⟩,f3,f4,f5⟩:=pf;refine⟨⟨⟨hd,x',P',[],by rw[List.map_drop];exact f2⟩,SH.frame (m:=m) (λy hy=>ct y (List.mem_of_mem_drop hy)) λy hy i h1 h2=>f5 i ?_ (by omega)⟩,?_,?_⟩;have:=s.lt (c:=y.1.1.toNat) (by simp only[aG];exact aU _ (QD.alj s (List.mem_of_mem_drop hy)));unfold iM at h1 h2;omega;unfold gP;rw[hq,hp,aS.2 ⟨by omega,by omega⟩];simp only[aj,bN,ae,aC];exact pc;unfold gP;rw[hq,hp,aS.2 ⟨by omega,by omega⟩];simp only[aj,bN,ae,aC];exact l2
theorem Ux:∀(l:ax aH)(s:ax Stream)(f:Ad),(∀w∈l,cC w=true)->iL (l.foldl jx s) f=Ct f (iL s f) l
 |[],s,f,_=>rfl
 |w::l,s,f,h=>by rw[List.foldl_cons,Ux l _ f λv hv=>h v (cc _ hv),Uy (h w List.mem_cons_self),UY]
abbrev Fl:=Ad
variable {qf:Fl->Nat}
def amk (Q:ax CW->aW->Prop)(h:Host)(k:Nat):Prop:=∃q p D,h.2.2.2.1[k]?=some q/\h.2.2.2.2.1[k]?=some p/\QD h.1 k q p D/\Q D q
def Con (Q:Nat->ax CW->aW->Prop)(h:Host):Prop:=∀k,k<h.2.2.2.1.length->amk (Q k) h k
theorem Con.step {Q Q':Nat->ax CW->aW->Prop}(f:Con Q h)(h2:h.2.2.2.1.length<=2)(hk:k<h.2.2.2.1.length)(e3:h'.2.2.2.1.length=h.2.2.2.1.length)(hq:∀j,j≠k->h'.2.2.2.1[j]?=h.2.2.2.1[j]?/\h'.2.2.2.2.1[j]?=h.2.2.2.2.1[j]?)(out:∀i,i<4864->(i<iM k\/iM k+1792<=i)->mB h'.1 i=mB h.1 i)(hQ:∀j,j≠k->∀D q,Q j D q->Q' j D q)(hF:amk (Q' k) h' k):Con Q' h':=by intro j hj;by_cases V1:j=k;subst V1;exact hF;rw[e3]at hj;have hn:iM k=1280+1792*k:=rfl;have hj2:iM j=1280+1792*j:=rfl;obtain⟨q,p,D,g1,g2,g3,g4⟩:=f j hj;have e:=hq j V1;exact⟨q,p,D,by rw[e.1];exact g1,by rw[e.2];exact g2,g3.frame λi h1 h2=>out i (by omega) (by omega),hQ j V1 D q g4⟩
theorem Con.same {Q Q':Nat->ax CW->aW->Prop}(f:Con Q h)(h2:h.2.2.2.1.length<=2)(e3:h'.2.2.2.1=h.2.2.2.1)(e4:h'.2.2.2.2.1=h.2.2.2.2.1)(out:∀i,i<4864->1280<=i->mB h'.1 i=mB h.1 i)(hQ:∀j D q,Q j D q->Q' j D q):Con Q' h':=by intro j hj;rw[e3]at hj;have hj2:iM j=1280+1792*j:=rfl;obtain⟨q,p,D,g1,g2,g3,g4⟩:=f j hj;exact⟨q,p,D,by rw[e3];exact g1,by rw[e4];exact g2,g3.frame λi h1 h2=>out i (by omega) (by omega),hQ j D q g4⟩
def E3 (h:Host):ax Stream:=h.2.2.2.2.2.2.2.2.2.1
def PQ (B:Nat->Int)(qf:Fl->Nat)(o Z:Fl->aA Stream)(k:Nat)(D:ax CW)(q:aW):Prop:=
 (∀w∈vp D q,cC w=true/\qf (dJ w)=k)/\B k<=q.2.2.2.2.2/\(B k<q.2.2.2.2.2\/∀f,qf f=k->Ct f (o f) (vp D q)=Z f)
def lI (B:Nat->Int)(qf:Fl->Nat)(Z:Fl->aA Stream)(h:Host):Prop:=Con (PQ B qf (iL (E3 h)) Z) h
theorem PQ.adv {B:Nat->Int}{o Z:Fl->aA Stream}{D D':ax CW}{q q':aW}(a:PQ B qf o Z k D q)(he:∀w∈e,qf (dJ w)=k)(b:Adv e D q D' q'):PQ B qf o (λf=>Ct f (Z f) e) k D' q':=by refine⟨λw hw=>?_,by have:=a.2.1;rcases b.2 with g|g<;>omega,?_⟩;obtain⟨h1,v,hv,hf⟩:=b.1 w hw;refine⟨h1,?_⟩;rw[<-hf];rcases aB.1 hv with g|g;exact(a.1 v g).2;exact he v g;rcases b.2 with g|⟨g1,g2⟩;exact Or.inl (by have:=a.2.1;omega);rcases a.2.2 with h|h;exact Or.inl (by rw[g1];exact h);refine Or.inr λf hf=>?_;rw[g2,DL,h f hf]
theorem XN {B:Nat->Int}{Z:Fl->aA Stream}(f:lI B qf Z h)(h2:h.2.2.2.1.length<=2)(hk:k<h.2.2.2.1.length){v:Vector}(hv:h.2.2.2.2.2.1[k]?=some v)(he:∀w∈e,qf (dJ w)=k){g:bK×aW}{b:Int}(out:∀i,i<4864->(i<iM k\/iM k+1792<=i)->mB g.1 i=mB h.1 i)(hG:∀q p D,h.2.2.2.1[k]?=some q->QD h.1 k q p D->∃D',QD g.1 k g.2 p D'/\Adv e D q D' g.2):lI B qf (λf=>Ct f (Z f) e) (qZ h k b g):=by
 have Uc:(EA h k g).2.2.2.2.2.1[k]?=some v:=hv;have ew:∃n,qZ h k b g=(g.1,h.2.1,h.2.2.1,h.2.2.2.1.set k g.2,h.2.2.2.2.1,h.2.2.2.2.2.1.set k (evN n v),h.2.2.2.2.2.2):=⟨_,by unfold qZ;rw[aaG Uc];rfl⟩
 obtain⟨n,ew⟩:=ew;obtain⟨q,p,D,g1,g2,g3,g4⟩:=f k hk;obtain⟨D',g5,g6⟩:=hG q p D g1 g3;rw[ew];refine Con.step (Q:=PQ B qf (iL (E3 h)) Z) f h2 hk (aL ..) (λj hj=>⟨aM (cE hj),rfl⟩) out (λj hj D q hQ=>⟨hQ.1,hQ.2.1,?_⟩) ⟨g.2,p,D',bL hk,g2,g5,g4.adv he g6⟩;rcases hQ.2.2 with hz|hz;exact Or.inl hz;refine Or.inr λf hf=>?_;show Ct f (iL (E3 h) f) (vp D q)=Ct f (Z f) e;rw[hz f hf,Wz e (Z f) λw hw e0=>hj (by rw[<-hf,<-e0];exact he w hw)]
theorem XM {n:Int}(hn:n<=500000000000)(g:Good n h)(l:Live Q h){B:Nat->Int}{Z:Fl->aA Stream}(f:lI B qf Z h)(hk:k<h.2.2.2.1.length):lI B qf Z (eH k h):=by
 have h2:=nt g;obtain⟨q,p,v,b,g1,g2,g3,g4,hd,x,P,C,F,s,w1,w2,w3,_⟩:=l.rx k hk;have rx:=g.rx q (aX g1);have e:eH k h=qZ h k q.2.1.2.2 (gy (bM 38) h.1 0 q h.2.2.2.2.2.2.2.2.1.2.2.1):=by unfold eH;rw[g1,l.maps]
 obtain⟨_,_,fl⟩:=zH l.mem (by omega) s (rx.rx (by omega)) _ (Et g);rw[e];refine XN f h2 hk g3 (e:=[]) (λw hw=>by cases hw) fl.out λq' p' D Pw hD=>?_;rw[g1]at Pw;have Pw:=bQ Pw;subst Pw;exact MV l.mem (by omega) hD hn rx _ (Et g)
theorem QG {n:Int}(hn:n<=400000000000)(g:Good n h)(l:Live Q h){B:Nat->Int}{Z:Fl->aA Stream}(f:lI B qf Z h):lI B qf Z (jh h):=by
 have h2:=nt g;have key:∀k:Nat,k<=h.2.2.2.1.length->Good (n+320*(k:Int)) (dX eH k h)/\(dX eH k h).2.2.2.1.length=h.2.2.2.1.length/\Live F3 (dX eH k h)/\lI B qf Z (dX eH k h):=by intro k;induction k with|zero=>intro _;exact⟨g.mono,rfl,l.zn λ_ _ _ _ _ _ _=>trivial,f⟩|succ k ih=>intro hk;obtain⟨i1,i2,i3,i4⟩:=ih (by omega);have st:=HZ (by omega) i1 i3 (k:=k);have gl:=Ej (by omega) i1 k;have e2:(eH k (dX eH k h)).2.2.2.1.length=(dX eH k h).2.2.2.1.length:=(nH k _).rx;exact⟨gl.mono (by push_cast;omega),e2.trans i2,st.zn λ_ _ _ _ _ _ _=>trivial,XM (by omega) i1 i3 i4 (by omega)⟩
 grind[jh]
def adr (fl:Filter)(st:cX)(n:Int)(Z:Fl->aA Stream)(y:Bytes):Fl->aA Stream:=
 bif ((fF y).2==0)&&(kj fl (fF y).1&&(gA st n (fF y).1 != -1)) then λf=>E5 f (Z f) (fF y).1 else Z
theorem Zj {y:Bytes}(h:((fF y).2==0)=true):gI (fF y).1=true:=by grind[fF]
theorem VP {n:Int}(hn:n<=400000000000)(g:Good n h)(l:Live Q h){B:Nat->Int}{Z:Fl->aA Stream}(f:lI B qf Z h)(y:Bytes)(hqf:cC (fF y).1=true->gA h.2.2.2.2.2.2.2.2.1 (h.2.2.2.1.length:Int) (fF y).1≠ -1->(gA h.2.2.2.2.2.2.2.2.1 (h.2.2.2.1.length:Int) (fF y).1).toNat=qf (dJ (fF y).1)):lI B qf (adr h.2.2.2.2.2.2.2.1 h.2.2.2.2.2.2.2.2.1 (h.2.2.2.1.length:Int) Z y) (iY h y):=by
 have h2:=nt g;have Eb:∀a b c d,lI B qf Z (po h a b c d):=λa b c d=>Con.same (h':=po h a b c d) f h2 rfl rfl (λ_ _ _=>rfl) λ_ _ _ hQ=>hQ;have lc:∀a b c d,Live F3 (po h a b c d):=λa b c d=>(l.zn λ_ _ _ _ _ _ _=>trivial).same (h':=po h a b c d) l.mem rfl rfl rfl rfl rfl l.tx (λ_ _ _=>rfl) h2;unfold iY adr;rw[g.ok (by omega)];simp only[aj,ae];cases he:(fF y).2 !=0 with
 |true=>rw[show((fF y).2==0)=false from by simpa[bne]using he];exact Eb _ _ _ _
 |false=>
  have he0:((fF y).2==0)=true:=by simpa[bne]using he
  have pk:=Zj he0;rw[he0];cases ha:kj h.2.2.2.2.2.2.2.1 (fF y).1;exact Eb _ _ _ _;cases hs:gA h.2.2.2.2.2.2.2.2.1 (h.2.2.2.1.length:Int) (fF y).1== -1 with
  |true=>rw[show(gA h.2.2.2.2.2.2.2.2.1 (h.2.2.2.1.length:Int) (fF y).1 != -1)=false from by unfold bne;rw[hs];rfl];exact Eb _ _ _ _
  |false=>
   rw[show(gA h.2.2.2.2.2.2.2.2.1 (h.2.2.2.1.length:Int) (fF y).1 != -1)=true from by unfold bne;rw[hs];rfl];simp only[aj,ae,du,af];have sup:cC (fF y).1=true:=by simp only[gI,ah]at pk;exact pk.1
   have ne:gA h.2.2.2.2.2.2.2.2.1 (h.2.2.2.1.length:Int) (fF y).1≠ -1:=by simpa using hs
   have hk:=hqf sup ne;rcases Jg (s:=h.2.2.2.2.2.2.2.2.1) (q:=(h.2.2.2.1.length:Int)) (p:=(fF y).1)with e|⟨k,e,iA⟩;exact absurd e ne;rw[e,aC]at hk⊢;have hkl:k<h.2.2.2.1.length:=by omega
   rw[ay hkl];simp only;obtain⟨q,p,v,b,g1,g2,g3,g4,hd,x,P,C,F,s,w1,w2,w3,_⟩:=l.rx k hkl;have e1:h.2.2.2.1[k]=q:=by rw[ay hkl]at g1;exact bQ g1
   rw[e1,l.maps];have rx:=g.rx q (aX g1);obtain⟨_,_,_,fl⟩:=Ht l.mem (by omega) s (by omega) rx h.2.2.2.2.2.2.2.2.1.2.2.1 (Et g) (fF y).1 h.2.2.2.2.2.2.2.2.2.2.1;exact XN (Eb h.2.2.2.2.2.2.2.2.2.2.2.2.2.2.2.1 h.2.2.2.2.2.2.2.2.2.2.2.2.2.2.2.2.1 h.2.2.2.2.2.2.2.2.2.2.2.2.2.2.2.2.2.1 (ar (h.2.2.2.2.2.2.2.2.2.2.2.2.2.2.2.2.2.2+1))) h2 hkl g3 (e:=[(fF y).1]) (λw hw=>by rw[bq.1 hw];exact hk.symm) fl.out λq' p' D Pw hD=>by have Pw:h.2.2.2.1[k]?=some q':=Pw;rw[g1]at Pw;have Pw:=bQ Pw;subst Pw;exact aak l.mem (by omega) hD hn rx _ (Et g) pk _
theorem lI.same {B:Nat->Int}{Z:Fl->aA Stream}(f:lI B qf Z h)(h2:h.2.2.2.1.length<=2)(e3:h'.2.2.2.1=h.2.2.2.1)(e4:h'.2.2.2.2.1=h.2.2.2.2.1)(es:E3 h'=E3 h)(out:∀i,i<4864->1280<=i->mB h'.1 i=mB h.1 i):lI B qf Z h':=Con.same f h2 e3 e4 out λj D q hQ=>by rw[es];exact hQ
theorem aed {n:Int}(g:Good n h)(l:Live Q h){B:Nat->Int}{Z:Fl->aA Stream}(f:lI B qf Z h)(p:aH)(c z:Int):lI B qf Z (vr h p c z).1:=by obtain⟨hd,L,s⟩:=l.tx;obtain⟨a,⟨L',b⟩,c'⟩:=U3 l.mem s g.tx p c z;unfold vr;cases eU h with|false=>exact f|true=>rw[l.maps];exact f.same (h':=(_,_,_,h.2.2.2)) (nt g) rfl rfl rfl c'
theorem Jt {n:Int}(hn:n<=1000000000000)(g:Good n h){B:Nat->Int}{Z:Fl->aA Stream}(f:lI B qf Z h):lI B qf Z (dj h):=by unfold dj;rw[g.ok hn,af];exact lI.same (h':=(h.1,h.2.1,_,h.2.2.2.1,h.2.2.2.2.1,h.2.2.2.2.2.1,h.2.2.2.2.2.2.1,h.2.2.2.2.2.2.2.1,h.2.2.2.2.2.2.2.2.1,h.2.2.2.2.2.2.2.2.2.1,_)) f (nt g) rfl rfl rfl λ_ _ _=>rfl
theorem T1 {n:Int}(hn:n<=1000000000000)(g:Good n h){B:Nat->Int}{Z:Fl->aA Stream}(f:lI B qf Z h):lI B qf Z (om h):=by
 have key:∀k,(dX jB k h).1=h.1/\(dX jB k h).2.2.2.1=h.2.2.2.1/\(dX jB k h).2.2.2.2.1=h.2.2.2.2.1/\E3 (dX jB k h)=E3 h:=by intro k;induction k with|zero=>exact⟨rfl,rfl,rfl,rfl⟩|succ k ih=>grind[jB,dX,E3]
 unfold om;rw[g.ok hn,af];obtain⟨a,b,c,d⟩:=key h.2.2.2.2.2.1.length;exact f.same (nt g) b c d λi _ _=>by rw[a]
theorem XO {n:Int}(hn:n<=1000000000000)(t:Int)(g:Good n h)(l:Live Q h){B:Nat->Int}{Z:Fl->aA Stream}(f:lI B qf Z h)(hk:k<h.2.2.2.1.length)(hc:1<=c/\c<=1000):lI B qf Z (qL (c:Int) k (t,h)).2:=by
 have D5:iM k=1280+1792*k:=rfl;have h2:=nt g;obtain⟨q,p,v,b,g1,g2,g3,g4,hd,x,P,C,F,s,w1,w2,w3,w4⟩:=l.rx k hk;have rq:=(g.rx q (aX g1)).rx hn;obtain⟨q',p',D,d1,d2,d3,d4⟩:=f k hk;rw[g1]at d1;have d1:=bQ d1;subst d1;rw[g2]at d2;have d2:=bQ d2;subst d2;obtain⟨m1,_,_,_,m5⟩:=IZ l.mem (by omega) s rq h.2.2.2.2.2.2.2.2.2.1 (b:=c);obtain⟨r1,r2,r3⟩:=aiw l.mem (by omega) d3 rq h.2.2.2.2.2.2.2.2.2.1 (b:=c) (by omega);obtain⟨hql,_⟩:=aD.1 g1;obtain⟨C1,_⟩:=aD.1 g2;unfold qL;simp only[g1,g2,g3,g4,l.maps];generalize hR:gP (bM 38) h.1 0 q p h.2.2.2.2.2.2.2.2.2.1 (c:Int)=R at m1 m5 r1 r2 r3;cases b||(oJ v).2 with
 |false=>exact lI.same (h':=(h.1,bM 38,h.2.2.1,h.2.2.2.1,h.2.2.2.2.1,_,_,h.2.2.2.2.2.2.2)) f h2 rfl rfl rfl λ_ _ _=>rfl
 |true=>
  simp only[af];have am4:∀w∈(D.take c).map (·.2),cC w=true/\qf (dJ w)=k:=λw hw=>by obtain⟨y,hy,rfl⟩:=dZ.1 hw;exact d4.1 _ (aU _ (dZ.2 ⟨y,List.mem_of_mem_take hy,rfl⟩))
  have lk:∀fl,iL R.2.2.2.1 fl=Ct fl (iL (E3 h) fl) ((D.take c).map (·.2)):=λfl=>by rw[r2,Ux _ _ _ λw hw=>(am4 w hw).1];rfl
  have hl:xo R.2.1=xo q:=by unfold xo;rw[r3]
  refine Con.step (Q:=PQ B qf (iL (E3 h)) Z) f h2 hk (aL ..) (λj hj=>⟨aM (cE hj),aM (cE hj)⟩) (λi hi ho=>m5 i hi (by omega)) (λj hj D' q' hQ=>⟨hQ.1,hQ.2.1,?_⟩) ⟨R.2.1,R.2.2.1,D.drop c,bL hql,bL C1,r1,λw hw=>?_,by rw[r3];exact d4.2.1,?_⟩;rcases hQ.2.2 with hz|hz;exact Or.inl hz;refine Or.inr λfl hf=>?_;show Ct fl (iL R.2.2.2.1 fl) (vp D' q')=Z fl;have e9:Ct fl (iL (E3 h) fl) ((D.take c).map (·.2))=iL (E3 h) fl:=Wz _ _ λw hw e0=>hj (by rw[<-hf,<-e0];exact(am4 w hw).2);rw[lk,e9];exact hz fl hf;unfold vp at hw;rw[hl]at hw;refine d4.1 w ?_;rcases aB.1 hw with u|u;obtain⟨y,hy,rfl⟩:=dZ.1 u;exact aU _ (dZ.2 ⟨y,List.mem_of_mem_drop hy,rfl⟩);exact bj _ u;rcases d4.2.2 with hz|hz;exact Or.inl (by rw[r3];exact hz);refine Or.inr λfl hf=>?_;show Ct fl (iL R.2.2.2.1 fl) (vp (D.drop c) R.2.1)=Z fl;unfold vp;rw[lk,hl,<-DL,<-aG,<-cS,cg];exact hz fl hf
theorem K1 {n:Int}(hn:n<=1000000000000)(g:Good n h)(l:Live Q h){B:Nat->Int}{Z:Fl->aA Stream}(f:lI B qf Z h)(b:Int):lI B qf Z (gi h b).1:=by
 cases hb:dV b 1 1000 with
 |false=>grind[gi]
 |true=>
  have hb:=aS.1 hb;obtain⟨c,rfl⟩:=au (show 0<=b by omega);have hc:1<=c/\c<=1000:=by omega
  have key:∀k:Nat,k<=h.2.2.2.1.length->Good n (gu (c:Int) k h).2/\(gu (c:Int) k h).2.2.2.2.1.length=h.2.2.2.1.length/\Live F3 (gu (c:Int) k h).2/\lI B qf Z (gu (c:Int) k h).2:=by intro k;induction k with|zero=>intro _;exact⟨g,rfl,l.zn λ_ _ _ _ _ _ _=>trivial,f⟩|succ k ih=>intro hk;obtain⟨i1,i2,i3,i4⟩:=ih (by omega);have st:=H0 (B:=F3) hn (gu (c:Int) k h).1 i1 i3 (k:=k) (by omega) hc (λC q v b q' v' b' _ _ _ _ _ _=>⟨λ_ _ _=>trivial,λ_ _ _=>trivial,λ_ _ _=>trivial⟩);exact⟨El (c:Int) k i1,((ED (c:Int) k _).rx).trans i2,st.zn λ_ _ _ _ _ _ _=>trivial,XO hn (gu (c:Int) k h).1 i1 i3 i4 (by omega) hc⟩
  grind[gi]
theorem NY {n:Int}(hn:n<=1000000000000)(g:Good n h)(l:Live F3 h){B:Nat->Int}{Z:Fl->aA Stream}(f:lI B qf Z h)(b:Int):∀k,Live F3 (vw b k h)/\lI B qf Z (vw b k h)
 |0=>⟨l,f⟩
 |k+1=>by obtain⟨i1,i2⟩:=NY hn g l f b k;have gd:=Ek b g k;have lt:=Ng hn gd i1 (B:=F3) λ_ _ _ _ _ _ _ _ _ _=>trivial;exact⟨JF hn (Fp gd) lt b,K1 hn (Fp gd) lt (T1 hn gd i2) b⟩
theorem afN (h:Host):(jh h).2.2.2.1.length=h.2.2.2.1.length:=by unfold jh;cases eU h with|false=>rfl|true=>exact(mD nH h _).rx
theorem aiL (h:Host):(om h).2.2.2.1.length=h.2.2.2.1.length:=by unfold om;cases eU h with|false=>rfl|true=>exact(mD xi h _).rx
theorem Zr (h:Host)(b:Int):(gi h b).1.2.2.2.1.length=h.2.2.2.1.length:=by unfold gi;cases eU h&&dV b 1 1000 with|false=>rfl|true=>exact(xA b h _).rx
theorem RS (h:Host)(b:Int):∀k,(vw b k h).2.2.2.1.length=h.2.2.2.1.length
 |0=>rfl
 |k+1=>(Zr _ b).trans ((aiL _).trans (RS h b k))
theorem WB (h:Host):(dj h).2.2.2.1.length=h.2.2.2.1.length:=by unfold dj;cases eU h<;>rfl
theorem XB {n:Int}(hn:n<=1000000000000)(g:Good n h){q:aW}(hq:q∈h.2.2.2.1)(hp:0<q.2.2.2.2.2):0<nJ h:=by
 have h2:=nt g;have uh:∀q∈h.2.2.2.1,0<=q.2.2.2.2.2/\q.2.2.2.2.2<=1000000000000:=λq hq=>by have:=(g.rx q hq).drop;omega
 unfold nJ;generalize h.2.2.2.1=l at h2 hq uh;clear g;rcases l with _|⟨a,l⟩;cases hq;have ha:=uh a (by simp);rcases l with _|⟨b,l⟩;rw[bq.1 hq]at hp;show 0<ar (0+a.2.2.2.2.2);rw[ak (by omega) (by omega)];omega;have hb:=uh b (by simp);rcases l with _|⟨c,l⟩;show 0<ar (ar (0+a.2.2.2.2.2)+b.2.2.2.2.2);have hab:0<a.2.2.2.2.2\/0<b.2.2.2.2.2:=by rcases cy.1 hq with e|e;rw[e]at hp;exact Or.inl hp;rw[bq.1 e]at hp;exact Or.inr hp
 rw[ak (n:=0+a.2.2.2.2.2) (by omega) (by omega),ak (by omega) (by omega)];omega;simp only[bp]at h2;omega
theorem XL {n:Int}(hn:n<=300000000000)(g:Good n h)(l:Live F3 h){B:Nat->Int}{Z:Fl->aA Stream}(f:lI B qf Z h){r:Nat}(hc:1<=c/\c<=1000)(hr:7<=r/\r<=200)(hq:∀fl,qf fl<h.2.2.2.1.length):(∃k q,(ku h (c:Int) (r:Int)).2.2.2.1[k]?=some q/\B k<q.2.2.2.2.2)\/∀fl,iL (E3 (ku h (c:Int) (r:Int))) fl=Z fl:=by
 obtain⟨gd,ld,qd⟩:=Hy hn g l hc hr;have gt:=EU g;obtain⟨lt,_⟩:=EY (by omega) g l;have ft:=Jt (by omega) g f;have gf:=Ke (by omega) gt;have lf:=Kn (by omega) gt lt;have ff:=QG (by omega) gt lt ft;have e:ku h (c:Int) (r:Int)=vw (c:Int) r (jh (dj h)):=by unfold ku;rw[g.ok (by omega),aS.2 ⟨by omega,by omega⟩,aS.2 ⟨by omega,by omega⟩];rfl
 obtain⟨_,fd⟩:=NY (by omega) gf (lf.zn λ_ _ _ _ _ _ _=>trivial) ff (c:Int) r;rw[<-e]at fd;have el:(ku h (c:Int) (r:Int)).2.2.2.1.length=h.2.2.2.1.length:=by rw[e,RS,afN,WB]
 generalize ku h (c:Int) (r:Int)=y at gd ld qd fd el⊢;by_cases h0:∃k q,y.2.2.2.1[k]?=some q/\B k<q.2.2.2.2.2;exact Or.inl h0;refine Or.inr λfl=>?_;have hk:qf fl<y.2.2.2.1.length:=by rw[el];exact hq fl
 obtain⟨q,p,D,d1,d2,⟨⟨hd,x,P,F,s⟩,ct⟩,d4⟩:=fd (qf fl) hk;have h2:=nt gd;unfold Nx at qd;simp only[ah,aP,aO]at qd;have q1:=qd.2.2 q (aX d1);rw[de]at q1;have hh:=q1.1;have hD:D=[]:=by cases D with|nil=>rfl|cons z D=>have nx:=No ld.mem (b:=iM (qf fl)+64) (by unfold iM;omega) s.com;have e1:=q1.2;unfold Gb at e1;rw[ld.maps,s.TM,nx.1,(gd.rx q (aX d1)).rx (by omega)]at e1;cases e1
 have hdr:¬B (qf fl)<q.2.2.2.2.2:=λhp=>h0 ⟨_,q,d1,hp⟩;rcases d4.2.2 with hz|hz;exact absurd hz hdr;have:=hz fl rfl;unfold vp xo at this;rw[hD,hh]at this;exact this
theorem aaM {n:Int}(hn:n<=300000000000)(g:Good n h)(l:Live F3 h){Z:Fl->aA Stream}(f:lI (λ_=>0) qf Z h){r:Nat}(hc:1<=c/\c<=1000)(hr:7<=r/\r<=200)(hq:∀fl,qf fl<h.2.2.2.1.length):0<nJ (ku h (c:Int) (r:Int))\/∀fl,iL (E3 (ku h (c:Int) (r:Int))) fl=Z fl:=by rcases XL hn g l f hc hr hq with⟨k,q,h1,h2⟩|h;exact Or.inl (XB (n:=n+640) (by omega) (Hy hn g l hc hr).1 (aX h1) h2);exact Or.inr h
structure rf (a b:Host):Prop where
 Fj:b.2.2.2.2.2.2.2.1=a.2.2.2.2.2.2.2.1
 Jf:Kz b=Kz a
 len:b.2.2.2.1.length=a.2.2.2.1.length
theorem rf.refl (a:Host):rf a a:=⟨rfl,rfl,rfl⟩
theorem rf.trans {a b c:Host}(h:rf a b)(g:rf b c):rf a c:=⟨g.Fj.trans h.Fj,g.Jf.trans h.Jf,g.len.trans h.len⟩
theorem rf.of {a b:Host}(h:mE k a b):rf a b:=⟨h.Fj,h.Jf,h.rx⟩
theorem YA (h:Host):rf h (jh h):=by unfold jh;cases eU h with|false=>exact rf.refl h|true=>exact .of (mD nH h _)
theorem abo (h:Host):rf h (om h):=by unfold om;cases eU h with|false=>exact rf.refl h|true=>exact .of (mD xi h _)
theorem S3 (h:Host)(b:Int):rf h (gi h b).1:=by unfold gi;cases eU h&&dV b 1 1000 with|false=>exact rf.refl h|true=>exact .of (xA b h _)
theorem Re (h:Host):rf h (dj h):=by unfold dj;cases eU h<;>exact⟨rfl,rfl,rfl⟩
theorem abn (h:Host)(p:aH)(c z:Int):rf h (vr h p c z).1:=by unfold vr;cases eU h<;>exact⟨rfl,rfl,rfl⟩
theorem S2 (h:Host)(x:Bytes):rf h (iY h x):=by
 have c:∀a b c d,rf h (po h a b c d):=λ_ _ _ _=>⟨rfl,rfl,rfl⟩
 unfold iY;cases !eU h;case true=>exact rf.refl h
 cases (fF x).2 !=0;case true=>exact c _ _ _ _
 cases !kj h.2.2.2.2.2.2.2.1 (fF x).1;case true=>exact c _ _ _ _
 cases gA h.2.2.2.2.2.2.2.2.1 (h.2.2.2.1.length:Int) (fF x).1== -1;case true=>exact c _ _ _ _
 simp only[ae];cases h.2.2.2.1[(gA h.2.2.2.2.2.2.2.2.1 (h.2.2.2.1.length:Int) (fF x).1).toNat]? with|none=>exact rf.refl h|some q=>exact(c _ _ _ _).trans (.of (Iv (agN ..)))
def acD (fl:Filter)(st:cX)(c:Nat)(Z:Fl->aA Stream)(a:Act):Fl->aA Stream:=bif Hr a&&(a.1==2) then adr fl st (c:Int) Z a.2.2.2.2.1 else Z
structure Run (n:Int) (qf:Fl->Nat) (fl:Filter) (st:cX) (c:Nat) (Z:Fl->Option Stream) (h:Host):Prop where
 QK:Good n h
 live:Live F3 h
 flow:lI (λ_=>0) qf Z h
 Fj:h.2.2.2.2.2.2.2.1=fl
 Jf:Kz h=st
 len:h.2.2.2.1.length=c
theorem Run.iC {n n':Int}{Z Z':Fl->aA Stream}(r:Run n qf fl st c Z h)(g:Good n' h')(l:Live F3 h')(f:lI (λ_=>0) qf Z' h')(k:rf h h'):Run n' qf fl st c Z' h':=⟨g,l,f,k.Fj.trans r.Fj,k.Jf.trans r.Jf,k.len.trans r.len⟩
theorem akn {n:Int}(hn:n<=400000000000)(hqf:∀p,cC p=true->gA st (c:Int) p≠ -1->(gA st (c:Int) p).toNat=qf (dJ p)){Z:Fl->aA Stream}(r:Run n qf fl st c Z h)(a:Act):Run (n+641) qf fl st c (acD fl st c Z a) (Df h a).1:=by
 have g:=r.QK;have l:=r.live;have f:=r.flow;have same:Run (n+641) qf fl st c Z h:=r.iC (g.mono) l f (rf.refl h);have no:a.1≠2->acD fl st c Z a=Z:=λe=>by grind[acD]
 have ga:=aeh (by omega) g a;unfold Df at ga⊢;rw[g.ok (by omega)]at ga⊢;cases ha:Hr a with
 |false=>grind[acD]
 |true=>
  rw[ha]at ga;simp only[aj,bN,ae]at ga⊢;cases e0:a.1==0 with|true=>rw[e0]at ga;rw[no (by simp at e0;omega)];exact r.iC ga (ae0 g l _ _ _) (aed g l f _ _ _) (abn ..)|false=> ?_
  rw[e0]at ga;cases e1:a.1==1 with|true=>rw[e1]at ga;rw[no (by simp at e1;omega)];exact r.iC ga (EY (by omega) g l).1 (Jt (by omega) g f) (Re h)|false=> ?_
  rw[e1]at ga;cases e2:a.1==2 with|true=>rw[e2]at ga;have fr:=VP (by omega) g l (qf:=qf) f a.2.2.2.2.1 (by have e:h.2.2.2.2.2.2.2.2.1=st:=r.Jf;rw[e,r.len];exact hqf _);have e:h.2.2.2.2.2.2.2.2.1=st:=r.Jf;rw[e,r.len,r.Fj]at fr;unfold acD;rw[ha,e2];exact r.iC ga (Wg (by omega) g l _) fr (S2 ..)|false=> ?_
  rw[e2]at ga;rw[no (by simp at e2;omega)];cases e3:a.1==3 with|true=>rw[e3]at ga;exact r.iC ga ((Kn (by omega) g l).zn λ_ _ _ _ _ _ _=>trivial) (QG (by omega) g l f) (YA h)|false=> ?_
  rw[e3]at ga;cases e4:a.1==4 with|true=>rw[e4]at ga;exact r.iC ga (Ng (by omega) g l λ_ _ _ _ _ _ _ _ _ _=>trivial) (T1 (by omega) g f) (abo h)|false=> ?_
  rw[e4]at ga;exact r.iC ga (JF (by omega) g l _) (K1 (by omega) g l f _) (S3 ..)
theorem abC {r:jX}(hr:r.2.2.2.2.2.2.1= -2){p':aH}(h1:cC p=true)(h2:cC p'=true)(e:dJ p=dJ p'):DF r p=DF r p':=by simp_all[dJ,DF,acT]
theorem Tz {l:ax jX}(hl:Vl l){p':aH}(h1:cC p=true)(h2:cC p'=true)(e:dJ p=dJ p'):∀i,i<=l.length->xk l p i=xk l p' i
 |0,_=>rfl
 |i+1,hi=>by rw[xk,xk,Tz hl h1 h2 e i (by omega),fD (show i<l.length by omega),abC (hl _ (bn _)) h1 h2 e]
theorem aco (hl:Vl st.1)(n:Int){p':aH}(h1:cC p=true)(h2:cC p'=true)(e:dJ p=dJ p'):gA st n p=gA st n p':=by
 have ef:Eh st.1 p=Eh st.1 p':=by unfold Eh;rw[Tz hl h1 h2 e _ (bc _)]
 grind[gA]
noncomputable def afJ (st:cX)(n:Int)(f:Fl):Nat:=(gA st n (Classical.epsilon λp=>cC p=true/\dJ p=f)).toNat
theorem akh (hl:Vl st.1){n:Int}(hp:cC p=true):(gA st n p).toNat=afJ st n (dJ p):=by have c:=Classical.epsilon_spec (p:=λp'=>cC p'=true/\dJ p'=dJ p) ⟨p,hp,rfl⟩;grind[afJ,aco]
theorem aki (st:cX){n:Nat}(hn:0<n)(f:Fl):afJ st (n:Int) f<n:=by grind[afJ,Jg]
theorem ahd (l:Live afi h)(qf:Fl->Nat){B:Nat->Int}(hB:∀k q,h.2.2.2.1[k]?=some q->B k<=q.2.2.2.2.2):lI B qf (iL (E3 h)) h:=by
 refine λk hk=>?_;obtain⟨q,p,v,b,g1,g2,g3,g4,hd,x,P,C,F,s,w1,w2,w3,rfl,_,w6,_⟩:=l.rx k hk;have e:vp [] q=[]:=by unfold vp xo;rw[w6];rfl
 refine⟨q,p,[],g1,g2,⟨⟨hd,x,P,F,s⟩,λc hc=>by cases hc⟩,λw hw=>?_,hB k q g1,Or.inr λf _=>?_⟩;grind;rw[e];rfl
theorem ako {n:Int}(g:Good n h)(l:Live afi h)(qf:Fl->Nat):Run n qf h.2.2.2.2.2.2.2.1 (Kz h) h.2.2.2.1.length (iL (E3 h)) h:=⟨g,l.zn λ_ _ _ _ _ _ _=>trivial,ahd l qf λk q hq=>(g.rx q (aX hq)).drop.1,rfl,rfl,rfl⟩
theorem YH (l:ax Stream)(f:Ad)(h:l.length<=10^9):idx l (Be f l 0)=iL l f:=by have e:Be f l 0=Ml l f:=bQ ((M6 l f (by omega)).symm.trans (Yw l f h));rw[e];unfold Ml iL;rw[List.find?_eq_bind_findIdx?_getElem?];cases l.findIdx? (atF f)with|none=>rfl|some i=>exact Px l i
theorem adP {a b:ax Stream}(ha:a.length<=10^9)(hb:b.length<=10^9)(h:∀f,iL a f=iL b f):(a.all (λs=>Fc a b s.1)&&b.all (λs=>Fc a b s.1))=true:=by
 have key:∀(l:ax Stream),(∀f,iL a f=iL l f)->∀s∈l,Fc a b s.1=true:=λl hl s hs=>by unfold Fc;rw[YH a _ ha,YH b _ hb,<-h];cases hx:iL a s.1 with|none=>rw[hl]at hx;have:=List.find?_eq_none.1 hx s hs;grind[atF]|some x=>simp
 grind
theorem afO {a b:ax Stream}(ha:a.length<=10^9)(hb:b.length<=10^9)(h:∀f,iL a f=iL b f):ov a b=some true:=by rw[ahT a b (by omega) (by omega),adP ha hb h]
def ML:Host->ax Act->dm
 |_,[]=>[]
 |h,a::l=>(Df h a).2::ML (Df h a).1 l
def M0:Host->ax Act->Host
 |h,[]=>h
 |h,a::l=>M0 (Df h a).1 l
theorem T3:∀(l:ax Act)(h:Host)(s:dm),l.foldl adA (h,s)=(M0 h l,s++ML h l)
 |[],h,s=>by show(h,s)=(h,s++[]);rw[bg]
 |a::l,h,s=>by show l.foldl adA ((Df h a).1,s++[(Df h a).2])=_;rw[T3 l,aG];rfl
theorem acI:∀(l:ax Act)(h:Host),(ML h l).length=l.length
 |[],_=>rfl
 |a::l,h=>by show(ML _ l).length+1=l.length+1;rw[acI l]
theorem UZ (a:Act)(l:ax Act)(v:Int)(vs:dm)(s:oq):∀i,O7 (a::l) (v::vs) s (i+1)=O7 l vs (OG v a s) i
 |0=>rfl
 |i+1=>by show OG ((v::vs).getD (i+1) 0) ((a::l).getD (i+1) amr) (O7 (a::l) (v::vs) s (i+1))=_;rw[UZ a l v vs s i];rfl
structure Jq (fl:Filter) (st:cX) (c:Nat) (Z:Fl->Option Stream) (sent:List Bytes) (s:oq):Prop where
 Fj:s.1=fl
 Jf:s.2.1=st
 q:s.2.2.1=(c:Int)
 look:∀f,iL s.2.2.2.1 f=Z f
 out:s.2.2.2.2=sent
theorem Jq.ok {Z:Fl->aA Stream}{s:oq}(k:Jq fl st c Z sent s)(h:(mY fl&&eX st (c:Int))=true):FU s=true:=by unfold FU;rw[k.Fj,k.Jf,k.q];exact h
theorem afX {Z:Fl->aA Stream}{s:oq}(hk:(mY fl&&eX st (c:Int))=true)(k:Jq fl st c Z sent s)(v:Int)(a:Act):Jq fl st c (acD fl st c Z a) (sent++Kv a v) (OG v a s):=by
 have hs:=k.ok hk;unfold OG acD Kv;cases ha:Hr a with
 |false=>show Jq fl st c Z (sent++[]) s;rw[bg];exact k
 |true=>
  simp only[aj,ae,bH];cases e2:a.1==2 with
  |true=>
   have h2:a.1=2:=by simpa using e2
   have e0:(a.1==0)=false:=by rw[h2];rfl
   rw[e0];simp only[af,iw,ae,bg];have et:Sl s a.2.2.2.2.1=((fF a.2.2.2.2.1).2==0&&(kj fl (fF a.2.2.2.2.1).1&&(gA st (c:Int) (fF a.2.2.2.2.1).1 != -1))):=by unfold Sl;rw[hs,k.Fj,k.Jf,k.q,bH]
   unfold FJ adr;rw[et];cases hc:((fF a.2.2.2.2.1).2==0&&(kj fl (fF a.2.2.2.2.1).1&&(gA st (c:Int) (fF a.2.2.2.2.1).1 != -1)))with
   |false=>exact k
   |true=>
    simp only[ah]at hc;have pk:=Zj hc.1;have sup:cC (fF a.2.2.2.2.1).1=true:=by simp only[gI,ah]at pk;exact pk.1
    exact⟨k.Fj,k.Jf,k.q,λf=>by show iL (jx s.2.2.2.1 _) f=E5 f (Z f) _;rw[Uy sup,k.look],k.out⟩
  |false=>simp only[ae];cases (a.1==0)&&(v==1)with|true=>unfold C9;rw[hs];exact⟨k.Fj,k.Jf,k.q,k.look,by show s.2.2.2.2++_=_;rw[k.out];rfl⟩|false=>show Jq fl st c Z (sent++[]) s;rw[bg];exact k
theorem adh (hqf:∀p,cC p=true->gA st (c:Int) p≠ -1->(gA st (c:Int) p).toNat=qf (dJ p))(hk:(mY fl&&eX st (c:Int))=true):∀(l:ax Act){n:Int}{Z:Fl->aA Stream}{h:Host}{sent:bK}{s:oq},n+641*(l.length:Int)<=400000000000->Run n qf fl st c Z h->vm sent h->Jq fl st c Z sent s->∃Z' Zu,Run (n+641*(l.length:Int)) qf fl st c Z' (M0 h l)/\vm Zu (M0 h l)/\Jq fl st c Z' Zu (O7 l (ML h l) s l.length)
 |[],n,Z,h,sent,s,_,r,w,k=>⟨Z,sent,r.iC (r.QK.mono (by simp)) r.live r.flow (rf.refl h),w,k⟩
 |a::l,n,Z,h,sent,s,hn,r,w,k=>by simp only[bp]at hn;have ra:=akn (by omega) hqf r a;have wa:=agu (by omega) r.QK r.live w a;have sa:=afX hk k (Df h a).2 a;obtain⟨Z',Zu,i1,i2,i3⟩:=adh hqf hk l (by omega) ra wa sa;refine⟨Z',Zu,i1.iC (i1.QK.mono (by simp only[bp];omega)) i1.live i1.flow (rf.refl _),i2,?_⟩;show Jq fl st c Z' Zu (O7 (a::l) ((Df h a).2::ML (Df h a).1 l) s (l.length+1));rw[UZ];exact i3
theorem Z6 (f:KM h):vm [] h:=by obtain⟨hd,L,s⟩:=(T5 f).tx;have hL:L=[]:=List.length_eq_zero_iff.1 (s.Eb.trans (by rw[f.led.1];rfl));subst hL;have hw:jr h=[]:=f.led.2.1;have:=agv ⟨hd,s⟩ f.led.1;rw[hw]at this;exact this
theorem ah1 (h1:l.length<=1048576)(h2:∀x∈l,Xd x):dF 1048576 (.sl agF) l:=by refine⟨h1,λx hx=>?_⟩;have k:=h2 x hx;exact⟨dx,⟨dx,dx,dx,dx,dx,dx,dx,dx,dx,dx,dx,dx,dx,dx,dx,bF k.1 (by omega)⟩,dx,dx,bF k.2.1 (by omega),dx⟩
theorem Tc (a:dm)(ha:adM (.sl (.int .u8)) a):BI a=some true:=by
 refine Ends.true ?_;unfold BI;refine alf rfl λhl=>?_;rw[ae];refine(Tf hl).bind λr2 p2=>?_;obtain⟨h,acts⟩:=r2;simp only at p2⊢;obtain⟨⟨f,vl⟩,hn,ahi⟩:=p2;have lv:=T5 f;have g:=f.QK;have z:=f.sz;have h2:=nt g;have h1:1<=h.2.2.2.1.length:=by have:=g.lens;unfold qv at this;simp only[ah,aS,bD]at this;omega
 obtain⟨v,hv,SY⟩:=amw ha hl (i:=0) (by omega) (by omega);have t0:=Int.tmod_nonneg 3 SY.1;have t1:=Int.tmod_lt_of_pos v (b:=3) (by omega);have qe:∀p,cC p=true->gA (Kz h) (h.2.2.2.1.length:Int) p≠ -1->(gA (Kz h) (h.2.2.2.1.length:Int) p).toNat=afJ (Kz h) (h.2.2.2.1.length:Int) (dJ p):=λp hp _=>akh vl hp;obtain⟨so1,so2⟩:=akq g (by omega);have ok:(mY h.2.2.2.2.2.2.2.1&&eX (Kz h) (h.2.2.2.1.length:Int))=true:=by rw[ah];exact⟨g.Fj,g.Jf⟩
 have s0:Jq h.2.2.2.2.2.2.2.1 (Kz h) h.2.2.2.1.length (iL (E3 h)) [] (FV h):=by rw[so1];exact⟨rfl,rfl,rfl,λ_=>rfl,rfl⟩
 obtain⟨Z,sent,r,w,k⟩:=adh qe ok acts (n:=0) (by omega) (ako g lv _) (Z6 f) s0;have er:runN h acts=(M0 h acts,ML h acts):=T3 acts h [];have hx:∀x∈acts,x.2.2.2.2.1.length<=10^9/\NoR x:=λx hx=>⟨by have:=(ahi x hx).1.2.1;omega,⟨(ahi x hx).1.2.2.1,(ahi x hx).1.2.2.2⟩,(ahi x hx).2⟩
 have al:=acI acts h;have zr:=akm (n:=2000) (by omega) z (l:=acts) (by omega);have ei:=ahS (g.ok (by omega)) (by omega) (z.mono) hx;have es:=ai3 (g.ok (by omega)) (by omega) (z.mono) hx;rw[er]at zr ei es;have hL:dF 100000000 (.sl agF) acts:=(ah1 (by omega) λx hx=>(ahi x hx).1).mono;have esr:=ZI (FV h) acts (ML h acts) (U6 h (z.z.mono)) hL;have e5:FN (FV h) acts (ML h acts)=O7 acts (ML h acts) (FV h) acts.length:=by unfold FN;rw[so2,al,ie,bne_self_eq_false];rfl
 have zs:=WA (l:=acts) (v:=ML h acts) (n:=2000) (by omega) (U6 h z.z);rw[e5]at esr zs;rw[ei,ab];simp only;generalize O7 acts (ML h acts) (FV h) acts.length=s at k esr zs;generalize M0 h acts=x at r w zr ei es⊢;generalize ML h acts=ans at al ei es esr⊢;rw[hv,ab,ak (by omega) (by omega)];refine Ends.ifn (by decide) ?_;obtain⟨c,hc⟩:=au (show 0<=1+Int.tmod v 3 by omega);rw[hc];have r1:Run (641*20) (afJ (Kz h) (h.2.2.2.1.length:Int)) h.2.2.2.2.2.2.2.1 (Kz h) h.2.2.2.1.length Z x:=r.iC (r.QK.mono) r.live r.flow (rf.refl x);obtain⟨gd,_,qd⟩:=Hy (n:=641*20) (by omega) r1.QK r1.live (c:=c) (r:=30) (by omega) (by omega);have fd:=aaM (n:=641*20) (by omega) r1.QK r1.live r1.flow (c:=c) (r:=30) (by omega) (by omega) λfl=>by rw[r1.len];exact aki _ (by omega) fl
 have wd:=WZ (n:=641*20) (by omega) r1.QK r1.live w (c:=c) (r:=30) (by omega) (by omega);have zd:=ad2 (by omega) (c:Int) (30:Int) zr;have gd:Good (641*20+640) (ku x (c:Int) (30:Int)):=gd;have qd:Nx (ku x (c:Int) (30:Int))=true:=qd;have fd:0<nJ (ku x (c:Int) (30:Int))\/∀fl,iL (E3 (ku x (c:Int) (30:Int))) fl=Z fl:=fd;have wd:jr (ku x (c:Int) (30:Int))=sent:=wd;rw[aew x _ _ (zr.mono),ab,aci h (z.z.mono) (z.sz (by omega)),ab,esr,ab,es,ab];simp only;rw[ab,ak (by omega) (by omega),hc];refine Ends.ifn (by decide) ?_;rw[afZ x _ _ (zr.mono),ab];generalize ku x (c:Int) (30:Int)=y at gd qd fd wd zd⊢;have y2:=nt gd;have hq:=aeE y (zd.sz (by omega)) (zd.z.mono);rw[qd]at hq;have hw:s.2.2.2.2.length<=10^9:=bF zs.2.2.2.2.1 (by omega);have mI:s.2.2.2.1.length<=10^9:=bF zs.2.2.2.1.1 (by omega);have hyt:(E3 y).length<=10^9:=bF zd.z.2.2.2.2.2.2.2.2.2.1.1 (by omega);have e9:jr y=s.2.2.2.2:=wd.trans k.out.symm;have e10:pF y.2.2.2.2.2.2.2.2.2.2.2.1 s.2.2.2.2=some true:=by show pF (jr y) _=_;rw[e9];exact RU _ hw
 rw[Pb y (by omega),ab,Te ans (by omega),ab,OZ y (by omega),ab,e10,hq];simp only[aj,ae,ab,bne_self_eq_false,af];by_cases hd:nJ y>0;rw[az hd];exact Ends.pure rfl;rw[aw hd,ae];have e1:=fd.resolve_left hd;have es:ov (E3 y) s.2.2.2.1=some true:=afO hyt mI λfl=>(e1 fl).trans (k.look fl).symm;show Ends (aa (aa (ov (E3 y) s.2.2.2.1) _) _) _;rw[es];exact Ends.pure rfl
end
end Go.Pu
