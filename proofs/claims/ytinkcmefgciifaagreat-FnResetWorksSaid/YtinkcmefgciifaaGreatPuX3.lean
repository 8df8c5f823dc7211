import Derived.KernelRfl
import Derived.Test.YtinkcmefgciifaaGreatPure
import Derived.Test.YtinkcmefgciifaaGreatPuX2
namespace Go.Pu
open Go.Dn
open Int (tmod)
set_option linter.unusedSimpArgs false
set_option linter.unusedVariables false
noncomputable section
variable {h h':Host} {N a b d i n z:Int} {hd k x:Nat} {Q:Nat->az Fw->bt->Vector->Bool->Prop} {p:dy} {q:bt} {g:fE} {t:dN} {R α:Type} {v:Vector} {C:az Fw} {l:az aH} {e ps:az aM} {s:az Stream×bt×dy} {L:az cg} {F P:gk} {m m':cg} {r:na}
/- HostReset: the program's and the reference's results are one. -/
def Va (g:Nat->Host->Host):Nat->Host->Host
 |0,h=>h
 |k+1,h=>g k (Va g k h)
structure Cp (a b:Host):Prop where
 maps:b.2.1=a.2.1
 tx:b.2.2.1=a.2.2.1
 rx:b.2.2.2.1.length=a.2.2.2.1.length
 pl:b.2.2.2.2.1.length=a.2.2.2.2.1.length
 vec:b.2.2.2.2.2.1=a.2.2.2.2.2.1
 YJ:b.2.2.2.2.2.2.1=a.2.2.2.2.2.2.1
 ret:b.2.2.2.2.2.2.2.2.2.2.2.2.2.1=a.2.2.2.2.2.2.2.2.2.2.2.2.2.1
theorem Cp.refl (a:Host):Cp a a:=⟨rfl,rfl,rfl,rfl,rfl,rfl,rfl⟩
theorem Cp.trans {a b c:Host}(h:Cp a b)(k:Cp b c):Cp a c:=⟨k.1.trans h.1,k.2.trans h.2,k.3.trans h.3,k.4.trans h.4,k.5.trans h.5,k.6.trans h.6,k.7.trans h.7⟩
theorem Mo (h:Host)(i:Nat)(c:Int):Cp h (vH h i c).2:=by unfold vH;rcases h1:h.2.2.2.1[i]? with _|rx;exact Cp.refl h;rcases h2:h.2.2.2.2.1[i]? with _|pl;exact Cp.refl h;exact⟨rfl,rfl,aD ..,aD ..,rfl,rfl,rfl⟩
def lZ (h:Host)(k:Nat):Host:=Va (λi s=>(vH s i 1000).2) k h
theorem EI {n:Nat}(hn:128<=n)(z:dC n eG h):∀k,Cp h (lZ h k)/\dC (n+322000*k) eG (lZ h k)
 |0=>⟨Cp.refl h,z⟩
 |k+1=>by have i:=EI hn z k;exact⟨i.1.trans (Mo ..),(aa0 (by omega) k 1000 i.2).mono⟩
def SY (h:Host)(l:dA):Host:=(h.1,h.2.1,h.2.2.1,h.2.2.2.1,h.2.2.2.2.1,h.2.2.2.2.2.1,h.2.2.2.2.2.2.1,h.2.2.2.2.2.2.2.1,h.2.2.2.2.2.2.2.2.1,h.2.2.2.2.2.2.2.2.2.1,h.2.2.2.2.2.2.2.2.2.2.1,h.2.2.2.2.2.2.2.2.2.2.2.1,h.2.2.2.2.2.2.2.2.2.2.2.2.1,h.2.2.2.2.2.2.2.2.2.2.2.2.2.1++l,h.2.2.2.2.2.2.2.2.2.2.2.2.2.2)
def NI (h:Host):Host:=(h.1,h.2.1,(tc.1,tc.2.1,tc.2.2.1,h.2.2.1.2.2.2),h.2.2.2)
def Gd (h:Host)(i:Nat)(dr:Int):Host:=
 ((mh h.2.1 h.1 i).1,h.2.1,h.2.2.1,h.2.2.2.1.set i ((mh h.2.1 h.1 i).2.1,(Fo i).2.1,(Fo i).2.2.1,(Fo i).2.2.2.1,(Fo i).2.2.2.2.1,dr),h.2.2.2.2.1.set i (mh h.2.1 h.1 i).2.2.1,h.2.2.2.2.2)
def Fb (x:bt):Int:=bif x.2.2.2.2.1 then ar (x.2.2.2.2.2+x.2.2.2.1.2.2) else x.2.2.2.2.2
def vI (i:Nat)(h:Host):Host:=
 match h.2.2.2.1[i]?,h.2.2.2.2.2.1[i]? with
 |some x,some v=>((Gd h i (Fb x)).1,h.2.1,h.2.2.1,(Gd h i (Fb x)).2.2.2.1,(Gd h i (Fb x)).2.2.2.2.1,h.2.2.2.2.2.1.set i (v.1,v.2.1,0,0,false,false),h.2.2.2.2.2.2.1.set i false,h.2.2.2.2.2.2.2)
 |_,_=>h
structure akz (k:Nat) (a b:Host):Prop where
 mem:b.1.length=a.1.length
 maps:b.2.1=a.2.1
 rx:b.2.2.2.1.length=a.2.2.2.1.length
 pl:b.2.2.2.2.1.length=a.2.2.2.2.1.length
 vec:b.2.2.2.2.2.1.length=a.2.2.2.2.2.1.length
 Yu:∀j,k<=j->b.2.2.2.2.2.1[j]?=a.2.2.2.2.2.1[j]?
 YJ:b.2.2.2.2.2.2.1.length=a.2.2.2.2.2.2.1.length
theorem SE (l:az aH)(m:cg)(i:Nat):(mh l m i).1.length=m.length:=by unfold mh;rw[ab4,lN]
theorem XP (i:Nat)(h:Host):akz (i+1) h (vI i h):=by unfold vI;rcases h1:h.2.2.2.1[i]? with _|x;exact⟨rfl,rfl,rfl,rfl,rfl,λ_ _=>rfl,rfl⟩;rcases h2:h.2.2.2.2.2.1[i]? with _|v;exact⟨rfl,rfl,rfl,rfl,rfl,λ_ _=>rfl,rfl⟩;have e1:(Gd h i (Fb x)).1.length=h.1.length:=SE h.2.1 h.1 i;exact⟨e1,rfl,aD ..,aD ..,aD ..,λj hj=>aF (by omega),aD ..⟩
def iY (h:Host)(k:Nat):Host:=Va vI k h
theorem ru (h:Host):∀k,akz k h (iY h k)
 |0=>⟨rfl,rfl,rfl,rfl,rfl,λ_ _=>rfl,rfl⟩
 |k+1=>by have a:=ru h k;have b:=XP k (iY h k);exact⟨b.mem.trans a.mem,b.maps.trans a.maps,b.rx.trans a.rx,b.pl.trans a.pl,b.vec.trans a.vec,λj hj=>(b.Yu j hj).trans (a.Yu j (by omega)),b.YJ.trans a.YJ⟩
theorem aey {n:Nat}(hn:1000<=n)(i:Nat)(d:Int)(z:dC n eG h):dC n eG (Gd h i d):=by unfold Gd mh;have h4:=qt (hY i+128) 384 4;have hf:=H2 h.2.1 (hZ h.2.1 h.1 0 (hY i) (ug 128) false).1 0 (hY i,4,0,0) (gP (hY i+128) 384 4).1;refine⟨RV (by omega) (Gi (by omega) z.1 ..) ..,z.2.1,z.2.2.1,qN z.2.2.2.1 ?_,qN z.2.2.2.2.1 ?_,z.2.2.2.2.2⟩;refine⟨⟨cM,cM,cM,cM⟩,⟨cM,cM,cM⟩,⟨cM,cM,cM⟩,⟨⟨cM,cM,cM,cM,cM,cM,cM,cM,cM,cM,cM,cM,cM,cM,cM,?_⟩,cM,cM⟩,cM,cM⟩;exact bM _;exact⟨cM,cM,cM,by show List.length _<=_;omega,λ_ _=>trivial⟩
theorem aa7 {n:Nat}(hn:1000<=n)(i:Nat)(z:dC n eG h):dC n eG (vI i h):=by unfold vI;rcases h1:h.2.2.2.1[i]? with _|x;exact z;rcases h2:h.2.2.2.2.2.1[i]? with _|v;exact z;have zo:=aey hn i (Fb x) z;exact⟨zo.1,z.2.1,z.2.2.1,zo.2.2.2.1,zo.2.2.2.2.1,qN z.2.2.2.2.2.1 ⟨cM,cM,cM,cM,cM,cM⟩,qN z.2.2.2.2.2.2.1 trivial,z.2.2.2.2.2.2.2⟩
theorem EM {n:Nat}(hn:1000<=n)(z:dC n eG h):∀k,dC n eG (iY h k)
 |0=>z
 |k+1=>aa7 hn k (EM hn z k)
def Lr (W:az pS)(i:Nat)(s:Host):Host:=match W[i]? with|some x=>SY s [x.1]|none=>s
def ku (h:Host):Host:=lZ h h.2.2.2.1.length
def returned (h:Host)(k:Nat):Host:=Va (Lr h.2.2.1.2.2.1) k (ku h)
structure akA (a b:Host):Prop where
 e:b=(a.1,a.2.1,a.2.2.1,a.2.2.2.1,a.2.2.2.2.1,a.2.2.2.2.2.1,a.2.2.2.2.2.2.1,a.2.2.2.2.2.2.2.1,a.2.2.2.2.2.2.2.2.1,a.2.2.2.2.2.2.2.2.2.1,a.2.2.2.2.2.2.2.2.2.2.1,a.2.2.2.2.2.2.2.2.2.2.2.1,a.2.2.2.2.2.2.2.2.2.2.2.2.1,b.2.2.2.2.2.2.2.2.2.2.2.2.2.1,a.2.2.2.2.2.2.2.2.2.2.2.2.2.2)
theorem zM {n:Nat}(z:dC n eG (ku h)):∀k,akA (ku h) (returned h k)/\(returned h k).2.2.2.2.2.2.2.2.2.2.2.2.2.1.length<=n+k
 |0=>⟨⟨rfl⟩,by have:=z.2.2.2.2.2.2.2.2.2.2.2.2.2.1.1;exact bH this (by omega)⟩
 |k+1=>by have i:=zM z k;have e:returned h (k+1)=Lr h.2.2.1.2.2.1 k (returned h k):=rfl;rw[e];unfold Lr;cases h.2.2.1.2.2.1[k]? with|none=>exact⟨i.1,bH i.2 (by omega)⟩|some x=>refine⟨⟨?_⟩,?_⟩;show SY _ _=_;have e:=i.1.e;generalize returned h k=r at e⊢;rw[e];rfl;show(_++[_]).length<=_;rw[aj,bD];omega
theorem UR {n:Nat}(z:dC n eG (ku h))(k:Nat):dC (n+k) eG (returned h k):=by have i:=zM z k;have z':dC (n+k) eG (ku h):=z.mono;rw[i.1.e];exact⟨z'.1,z'.2.1,z'.2.2.1,z'.2.2.2.1,z'.2.2.2.2.1,z'.2.2.2.2.2.1,z'.2.2.2.2.2.2.1,z'.2.2.2.2.2.2.2.1,z'.2.2.2.2.2.2.2.2.1,z'.2.2.2.2.2.2.2.2.2.1,z'.2.2.2.2.2.2.2.2.2.2.1,z'.2.2.2.2.2.2.2.2.2.2.2.1,z'.2.2.2.2.2.2.2.2.2.2.2.2.1,⟨i.2,λ_ _=>trivial⟩,z'.2.2.2.2.2.2.2.2.2.2.2.2.2.2⟩
theorem Yp {n:Nat}(hn:1000<=n)(z:dC n eG h):dC n eG (NI h):=by have h4:=qt 256 128 8;exact⟨z.1,z.2.1,⟨⟨cM,cM,cM,cM⟩,⟨cM,cM,cM,by show List.length (gP 256 128 8).1.2.2.2<=n;omega,λ_ _=>trivial⟩,⟨bM _,λx hx=>by cases hx⟩,cM⟩,z.2.2.2⟩
def jD (h:Host):Host:=NI (returned h h.2.2.1.2.2.1.length)
def rG (h:Host):Host:=bif fb h then iY (jD h) h.2.2.2.1.length else h
theorem OY (hb:fb h=true):po h=true:=by simp only[fb,ae]at hb;exact hb.2.2.2.2.1
theorem LV {n:Nat}(hn:1000<=n)(z:dC n eG h)(hl:h.2.2.2.1.length<=2):dC (n+644000+h.2.2.1.2.2.1.length) eG (jD h):=by have hp:=EI (by omega) z h.2.2.2.1.length;exact Yp (by omega) (UR (hp.2.mono) _)
theorem aow (l:az aH)(X:cg)(q:bt)(P:dy)(o:cg×na×dy×Int)(k:bt×dy->cg×na×dy×Int->aC R)(h:jG l X 0 q.1 P=some o):(aa (jG l X 0 (q,P).1.1 (q,P).2) λNd=>k (q,P) Nd)=k (q,P) o:=by show aa (jG l X 0 q.1 P) (λNd=>k (q,P) Nd)=k (q,P) o;rw[h,ab]
theorem Sf (l:az aH)(m:cg)(i:Nat)(hi:i<=8)(hl:l.length<=10^9)(hm:m.length<=10^9)(k:bt×dy->cg×na×dy×Int->aC R): (aa (sN (i:Int)) λyU=>aa (pY 0 128) λYK=>aa (kQ l m 0 yU YK) λDY=>aa (ye (i:Int)) λHG=>aa (jG l DY.1 0 HG.1.1 HG.2) λNd=>k HG Nd)=k (Fo i,(gP (hY i+128) 384 4).1) (mh l m i):=by
 have hb:hY i=1280+(i:Int)*1792:=rfl;have Nu:hY i<=9223372036854775807:=by omega
 have hz:pY 0 128=some (ug 128):=aci 128;have hf:=WM l (hZ l m 0 (hY i) (ug 128) false).1 0 (hY i,4,0,0) (gP (hY i+128) 384 4).1 hl (by rw[lN];exact hm) (bH (qt (hY i+128) 384 4) (by omega));rw[WI i hi,ab,hz,ab,Db l m 0 (hY i) (ug 128) hl hm Nu,ab,adP i hi,ab];exact aow l _ (Fo i) _ (mh l m i) k hf
theorem Q8 (K:Int->Host->aC Host)(s0 B:Host)(N:Nat)(hN:N<=2)(h1:s0.2.2.2.1.length=N)(h2:s0.2.2.2.2.1.length=N)(h3:s0.2.2.2.2.2.1.length=N)(h4:s0.2.2.2.2.2.2.1.length=N)(z:dC 900000000 eG s0): bp (mM K (N:Int) B) fuel (0,s0)=K (N:Int) (iY s0 N):=by
 refine fe (λi=>((i:Int),iY s0 i)) N (by omega) (λi nx hi=>?_) (λnx=>?_);have kr:=ru s0 i;have zr:=EM (by omega) z i;have z1:(iY s0 i).1.length<=10^9:=bH zr.1.1 (by omega);have z2:(iY s0 i).2.1.length<=10^9:=bH zr.2.1.1 (by omega);have i1:i<(iY s0 i).2.2.2.1.length:=by rw[kr.rx,h1];exact hi
 have i2:i<(iY s0 i).2.2.2.2.1.length:=by rw[kr.pl,h2];exact hi
 have i3:i<(iY s0 i).2.2.2.2.2.1.length:=by rw[kr.vec,h3];exact hi
 have i4:i<(iY s0 i).2.2.2.2.2.2.1.length:=by rw[kr.YJ,h4];exact hi
 rw[show iY s0 (i+1)=vI i (iY s0 i) from rfl];generalize iY s0 i=s at z1 z2 i1 i2 i3 i4⊢;unfold vI Fb Gd;simp only[aq i1,aq i3];simp only[mM];rw[lH,ah];simp only[bK i1,ab];rw[Sf s.2.1 s.1 i (by omega) z2 z1,Sf s.2.1 s.1 i (by omega) z2 z1];generalize Fo i=q;generalize mh s.2.1 s.1 i=o;simp only[bK i1,bK i2,bK i3,bK i4,ab];rw[al (n:=(i:Int)+1),ax];cases s.2.2.2.1[i].2.2.2.2.1<;>rfl;simp only[mM];rw[dw,af]
theorem T3 {n:Nat}(hq:Cp h (ku h))(hz:dC n eG (ku h)):(jD h).2.2.2.1.length=h.2.2.2.1.length/\(jD h).2.2.2.2.1.length=h.2.2.2.2.1.length/\(jD h).2.2.2.2.2.1=h.2.2.2.2.2.1/\(jD h).2.2.2.2.2.2.1=h.2.2.2.2.2.2.1:=by have er:=(zM hz h.2.2.1.2.2.1.length).1.e;refine⟨?_,?_,?_,?_⟩;show(returned h h.2.2.1.2.2.1.length).2.2.2.1.length=_;rw[er];exact hq.rx;show(returned h h.2.2.1.2.2.1.length).2.2.2.2.1.length=_;rw[er];exact hq.pl;show(returned h h.2.2.1.2.2.1.length).2.2.2.2.2.1=_;rw[er];exact hq.vec;show(returned h h.2.2.1.2.2.1.length).2.2.2.2.2.2.1=_;rw[er];exact hq.YJ
theorem Da (h:Host)(k:HR h)(z:dC 100000000 eG h):mL h=some (rG h):=by
 have C9:=eR;unfold mL rG;rw[nD h (z.mono),ab,wH h k,ab];cases hb:fb h;rfl;have hl:=nM (OY hb);have hw:h.2.2.1.2.2.1.length<=100000000:=z.2.2.1.2.2.1.1;have hp:=EI (n:=100000000) (by omega) z;simp only[ak,af,ah];refine fe (λi=>((i:Int),lZ h i)) h.2.2.2.1.length (by omega) (λi nx hi=>?_) (λnx=>?_);simp only[rT];rw[lH,ah,Uy (lZ h i) i 1000 (by rw[(hp i).1.rx];exact hi) (by rw[(hp i).1.pl];omega) ((hp i).2.mono),ab,al];rfl;simp only[rT];rw[dw,af];have hq:=hp h.2.2.2.1.length;have hr:=zM (n:=100000000+322000*h.2.2.2.1.length) hq.2;have e1:(lZ h h.2.2.2.1.length).2.2.1.2.2.1=h.2.2.1.2.2.1:=by rw[hq.1.tx]
 rw[e1];refine fe (λi=>((i:Int),returned h i)) h.2.2.1.2.2.1.length (by omega) (λi nx hi=>?_) (λnx=>?_);have hri:=(hr i).2;simp only[qg];rw[lH,ah,bK hi,ab,bf (by rw[bD];omega),al];rw[show returned h (i+1)=Lr h.2.2.1.2.2.1 i (returned h i) from rfl,Lr,aq hi];rfl;simp only[qg];rw[dw,af];simp only[adZ,ab];have hE:=LV (n:=100000000) (by omega) z hl.1;have hk:=T3 hq.1 hq.2;have eN:((List.length (returned h h.2.2.1.2.2.1.length).2.2.2.1:Nat):Int)=(h.2.2.2.1.length:Int):=congrArg Nat.cast hk.1;rw[eN];exact Q8 _ (jD h) _ h.2.2.2.1.length hl.1 hk.1 (hk.2.1.trans hl.2.1) (by rw[hk.2.2.1];exact hl.2.2.1) (by rw[hk.2.2.2];exact hl.2.2.2) (hE.mono)
def txt (_:Int):Bytes:=[]
def BA:(t:CT)->t.D->Nat
 | .int _,_=>1
 | .bool,_=>1
 | .str,_=>1
 | .sl e,xs=>(xs.map (BA e)).sum
 | .pair a b,x=>BA a x.1+BA b x.2
def mkL (f:α->Int->α)(c:α->Nat):az α->Int->az α
 |[],_=>[]
 |x::xs,k=>f x k::mkL f c xs (k+c x)
def mk:(t:CT)->t.D->Int->t.D
 | .int _,_,k=>k
 | .bool,_,k=>tmod k 3==0
 | .str,_,k=>txt k
 | .sl e,xs,k=>mkL (mk e) (BA e) xs k
 | .pair a b,x,k=>(mk a x.1 k,mk b x.2 (k+BA a x.1))
def wt:CT->Nat
 | .sl e=>wt e
 | .pair a b=>wt a+wt b
 |_=>1
structure Few (h:Host):Prop where
 pl:h.2.2.2.2.1.length<=2
 w:h.2.2.1.2.2.1.length<=16
theorem agL (hb:fb h=true):Few h:=by have hl:=nM (by have:=hb;simp only[fb,ae]at this;exact this.2.2.2.2.1:po h=true);have ht:=Ix (t:=h.2.2.1) (by simp only[fb,ae]at hb;exact hb.2.2.1);exact⟨by omega,ht⟩
theorem CZ.tx {n:Nat}(k:CZ n h)(hn:n<=10^9):aja h.2.2.1:=
 have z:dC 1000000000 eG h:=k.z.mono hn
 ⟨z.2.2.1.2.1.2.2.2.1,z.2.2.1.2.2.1.1,λx hx=>(z.2.2.1.2.2.1.2 x hx).2.2.1⟩
def AE (h:Host)(p:aM)(c z:Int):Host×Bool:=
 bif fb h then(((pC h.2.1 h.1 0 h.2.2.1 p c z).1,h.2.1,(pC h.2.1 h.1 0 h.2.2.1 p c z).2.1,h.2.2.2),(pC h.2.1 h.1 0 h.2.2.1 p c z).2.2) else(h,false)
theorem Si (h:Host)(p:aM)(c z:Int)(k:CZ 900000000 h):nW h p c z=some (AE h p c z):=by have zz:dC 1000000000 eG h:=k.z.mono;unfold nW AE;rw[nD h zz,ab,wH h (k.sz (by omega)),ab];cases fb h;rfl;simp only[ak,af,ah,adQ _ _ _ _ _ _ _ zz.2.1.1 zz.1.1 (k.tx (by omega)) zz.2.2.1.2.2.1.1 (bH k.t (by omega)),ab]
theorem RX {n:Nat}(hn:128<=n)(l:az aH)(d:Int)(p:dy)(z:Nat):∀(q:dA)(s:Bytes)(m:cg)(a:az ij){x},dC n (.sl .str) m->ud l d p z q s m a=some x->dC n (.sl .str) x.2
 |[],s,m,a,x,hm,h=>by cases h;exact hm
 |b::q,s,m,a,x,hm,h=>by rw[ud]at h;cases hq:(hZ l m d (oy p b) (s.take z) false).2 with|false=>rw[hq]at h;cases h|true=>rw[hq]at h;exact RX hn l d p z q _ _ _ (Gi hn hm ..) h
theorem Mq {n:Nat}(hn:128<=n)(l:az aH)(d:Int):∀(q:cg)(m:cg)(r:na){x},dC n (.sl .str) m->oK l d q m r=some x->dC n (.sl .str) x.1
 |[],m,r,x,hm,h=>by cases h;exact hm
 |s::q,m,r,x,hm,h=>by rw[oK]at h;cases hq:(cW l m d r s).2.2 with|false=>rw[hq]at h;cases h|true=>rw[hq]at h;exact Mq hn l d q _ _ (JV hn hm ..) h
theorem XG {n:Nat}(hn:128<=n){q:cg}(hm:dC n (.sl .str) m):dC n (.sl .str) (qu l m d r q).1:=by unfold qu;cases hx:oK l d q m r with|none=>exact hm|some x=>exact Mq hn l d q m r hm hx
theorem afp (p:dy)(n:Int):(kb p n).1.2.2.2.length+(kb p n).2.1.length=p.2.2.2.length:=by unfold kb;cases du p&&dD n 0 (p.2.2.2.length:Int)with|false=>rfl|true=>simp only[ah,aP,aY];omega
theorem ac2 (a:az pS)(x:pS):(bG (a++[x])).length=(bG a).length+x.2.2.length:=by simp[bG]
theorem XY:∀l:az pS,(∀x∈l,1<=x.2.1)->(l.length:Int)<=dT l
 |[],_=>by simp[dT]
 |y::l,h=>by have h1:=XY l (λx hx=>h x (dZ _ hx));have h2:=h y (List.mem_cons_self ..);simp only[dT,cS,gv,aV]at h1⊢;omega
structure akC (n:Nat) (m:List Bytes) (t:dN) (r:List Bytes×dN×Bool):Prop where
 mem:dC n (.sl .str) r.1
 tx:dC (n+1) ns r.2.1
 sum:r.2.1.2.1.2.2.2.length+(bG r.2.1.2.2.1).length<=n
 w:r.2.1.2.2.1.length<=16\/r.2.1.2.2.1=t.2.2.1
theorem aeX {n:Nat}(hn:128<=n){p:aM}{c:Int}(d:Int)(hm:dC n (.sl .str) m)(ht:dC n ns t)(hs:t.2.1.2.2.2.length+(bG t.2.2.1).length<=n):akC n m t (pC l m d t p c z):=by
 have PE:akC n m t (m,t,false):=⟨hm,ht.mono,hs,Or.inr rfl⟩
 unfold pC;cases hg:MQ t&&(cH p&&(dD z 1 t.2.1.2.1&&dD c 1 128));exact PE;simp only[ae]at hg;simp only[ah];generalize wj p z.toNat=k;cases hk:Ff t k;exact PE;simp only[ah];rcases hx:ud l d t.2.1 z.toNat (kb t.2.1 (k:Int)).2.1 (kV p).1 m []with _|x;exact PE;simp only;unfold J1;have hpm:=XG (n:=n) hn (l:=l) (d:=d) (q:=(jW x.1 c t.2.2.2).map iJ) (r:=t.1) (RX hn l d t.2.1 z.toNat _ _ _ _ hm hx);generalize qu l x.2 d t.1 ((jW x.1 c t.2.2.2).map iJ)=w at hpm⊢;cases w.2.2;exact PE;have hl:=afp t.2.1 (k:Int);have hb:=ac2 t.2.2.1 (t.2.2.2,(k:Int)+1,(kb t.2.1 (k:Int)).2.1);have hb:(bG (t.2.2.1++[(t.2.2.2,(k:Int)+1,(kb t.2.1 (k:Int)).2.1)])).length=(bG t.2.2.1).length+(kb t.2.1 (k:Int)).2.1.length:=hb;refine⟨hpm,⟨⟨cM,cM,cM,cM⟩,⟨cM,cM,cM,?_,λ_ _=>trivial⟩,?_,cM⟩,?_,Or.inl ?_⟩;show(kb t.2.1 (k:Int)).1.2.2.2.length<=n+1;omega;exact K1 (t:=kX) (k:=1) ht.2.2.1 (λy hy=>by rw[bA.1 hy];exact⟨cM,cM,by show(kb t.2.1 (k:Int)).2.1.length<=n;omega,λ_ _=>trivial⟩) (by simp);show(kb t.2.1 (k:Int)).1.2.2.2.length+(bG (t.2.2.1++[(t.2.2.2,(k:Int)+1,(kb t.2.1 (k:Int)).2.1)])).length<=n;omega;show(t.2.2.1++[_]).length<=16;have hq:=hg.1;simp only[MQ,ae]at hq;have YG:=mX hq.1;have hc:=XY t.2.2.1 (λx hx=>by have:=aL.1 hq.2.2.2.1 x hx;simp only[kF,ae,aS]at this;omega);unfold Ff at hk;simp only[ae,aN,cG]at hk;rw[aj,bD];omega
theorem aie {n:Nat}(hn:1000<=n)(p:aM)(c z:Int)(k:CZ n h):CZ (n+1) (AE h p c z).1:=by unfold AE;cases fb h;exact k.mono;have zz:=k.z;have s:=aeX (by omega) (l:=h.2.1) (p:=p) (c:=c) (z:=z) 0 zz.1 zz.2.2.1 k.t;have z1:dC (n+1) eG h:=zz.mono;exact⟨⟨s.mem.mono,z1.2.1,s.tx,z1.2.2.2⟩,bH s.sum (by omega)⟩
theorem Ms (h:Host):∀k,(iY h k).2.2.1=h.2.2.1
 |0=>rfl
 |k+1=>by show(vI k (iY h k)).2.2.1=_;rw[<-Ms h k];generalize iY h k=s;unfold vI;rcases h1:s.2.2.2.1[k]? with _|x;rfl;cases h2:s.2.2.2.2.2.1[k]? with|none=>rfl|some v=>rfl
theorem SV {n:Nat}(hn:1000<=n)(k:CZ n h)(f:Few h):CZ (n+645000) (rG h)/\Few (rG h):=by
 unfold rG;cases hb:fb h;exact⟨k.mono,f⟩;have hl:=nM (OY hb);have e:=LV hn k.z hl.1;have hw:=f.w;have hp:=EI (n:=n) (by omega) k.z h.2.2.2.1.length;have ht:=(zM (n:=n+322000*h.2.2.2.1.length) (h:=h) hp.2 h.2.2.1.2.2.1.length).1.e;have h4:=qt 256 128 8;simp only[ah];have hx:=Ms (jD h) h.2.2.2.1.length;have hk:=(ru (jD h) h.2.2.2.1.length).pl;have Er:(jD h).2.2.2.2.1.length=h.2.2.2.2.1.length:=by show(returned h h.2.2.1.2.2.1.length).2.2.2.2.1.length=_;rw[ht];exact hp.1.pl
 refine⟨⟨(EM (by omega) e _).mono,?_⟩,?_,?_⟩;rw[hx];show(gP 256 128 8).1.2.2.2.length+0<=_;omega;rw[hk,Er];exact f.pl;rw[hx];show 0<=16;omega
def wC (f:iU):az Stream->Int->Int
 |[],_=> -1
 |s::r,i=>if s.1=f then i else wC f r (i+1)
theorem Ph {T:(Int->aC Int)->Int->aC Int}(a:az Stream)(f:iU)(h:a.length<=1073741824)(hs:∀i (hi:i<a.length) nx,T nx (i:Int)=cond (decide (a[i].1=f)) (some (i:Int)) (nx ((i+1:Nat):Int)))(hf:∀nx,T nx (a.length:Int)=some (-1)): bp T fuel 0=some (wC f a 0):=by
 have C9:=eR;have key:∀n i,i<=a.length->a.length-i<n->bp T n (i:Int)=some (wC f (a.drop i) i):=by
  intro n;induction n with
  |zero=>intro i _ h;omega
  |succ n ih=>
   intro i hi hn;rw[bp];rcases ca i a.length with iz|BC;rw[hs i iz,bV iz,wC];by_cases hq:a[i].1=f;simp[hq];simp only[hq,decide_false,af,cy];exact ih (i+1) (by omega) (by omega);have:i=a.length:=by omega
   subst this;rw[hf,gQ];rfl
 exact key fuel 0 (by omega) (by omega)
theorem Ta (a:az Stream)(f:iU)(h:a.length<=1073741824):iQ a f=some (wC f a 0):=by unfold iQ;refine Ph a f h (λi hi nx=>?_) (λnx=>?_);simp only[jS];rw[lH,bK hi,al];simp only[ah,ab,Ek];rfl;simp only[jS];rw[dw];rfl
theorem adK (a:az Stream)(f:iU)(h:a.length<=1073741824):mw a f=some (wC f a 0):=by unfold mw;refine Ph a f h (λi hi nx=>?_) (λnx=>?_);simp only[jR];rw[lH,bK hi,al];simp only[ah,ab,Ek];rfl;simp only[jR];rw[dw];rfl
theorem Oz (f:iU):∀(a:az Stream)(i:Int),(wC f a i= -1/\∀s∈a,s.1≠f)\/∃n:Nat,n<a.length/\wC f a i=i+n/\∃s∈a,s.1=f
 |[],_=> .inl ⟨rfl,by simp⟩
 |s::r,i=>by unfold wC;by_cases h:s.1=f;rw[aJ h];exact .inr ⟨0,by simp,by simp,s,by simp,h⟩;rw[aI h];rcases Oz f r (i+1)with⟨h1,h2⟩|⟨n,h1,h2,s',h3,h4⟩;exact .inl ⟨h1,by intro t ht;rcases cD.1 ht with rfl|ht;exact h;exact h2 t ht⟩;exact .inr ⟨n+1,by simp;omega,by rw[h2];push_cast;omega,s',by simp[h3],h4⟩
theorem R1 (f:iU)(a:az Stream):(wC f a 0= -1/\∀s∈a,s.1≠f)\/∃x,0<=wC f a 0/\idx a (wC f a 0)=some x:=by rcases Oz f a 0 with h|⟨n,h1,h2,_⟩;exact .inl h;refine .inr ⟨a[n],by rw[h2];omega,?_⟩;rw[h2,Int.zero_add];exact bK h1
theorem afl (p q:Stream):((p.1.1==q.1.1)&&((p.1.2.1==q.1.2.1)&&((p.1.2.2.1==q.1.2.2.1)&&((p.1.2.2.2.1==q.1.2.2.2.1)&&((p.1.2.2.2.2==q.1.2.2.2.2)&&((p.2.1==q.2.1)&&((p.2.2.1==q.2.2.1)&&((p.2.2.2==q.2.2.2)&&true))))))))=decide (p=q):=by obtain⟨⟨a,b,c,d,e⟩,x,y,z⟩:=p;obtain⟨⟨a',b',c',d',e'⟩,x',y',z'⟩:=q;rw[dU];simp[and_assoc]
def wv (a b:az Stream)(f:iU):Bool:=
 match idx a (wC f a 0),idx b (wC f b 0)with
 |some x,some y=>decide (x=y)
 |_,_=>false
theorem YP (a b:az Stream)(f:iU):wv a b f=wv b a f:=by unfold wv;cases idx a (wC f a 0)<;>cases idx b (wC f b 0)<;>simp[eq_comm]
theorem afJ {T:(Int->aC Bool)->Int->aC Bool}{fin:aC Bool}(p:Stream->Bool)(a:az Stream)(h:a.length<=1073741824)(hs:∀i (hi:i<a.length) nx,T nx (i:Int)=cond (!(p a[i])) (some false) (nx ((i+1:Nat):Int)))(hf:∀nx,T nx (a.length:Int)=fin): bp T fuel 0=cond (a.all p) fin (some false):=by
 have C9:=eR;have key:∀n i,i<=a.length->a.length-i<n->bp T n (i:Int)=cond ((a.drop i).all p) fin (some false):=by
  intro n;induction n with
  |zero=>intro i _ h;omega
  |succ n ih=>
   intro i hi hn;rw[bp];rcases ca i a.length with iz|BC;rw[hs i iz,bV iz,cw];cases hq:p a[i]with|false=>rfl|true=>exact ih (i+1) (by omega) (by omega)
   have:i=a.length:=by omega
   subst this;rw[hf,gQ];rfl
 exact key fuel 0 (by omega) (by omega)
theorem Qk (a b:az Stream)(ha:a.length<=1073741824)(hb:b.length<=1073741824):sZ a b=some (a.all (λs=>wv a b s.1)):=by
 unfold sZ;rw[afJ (λs=>wv a b s.1) a ha (λi hi nx=>?hs) (λnx=>?hf)]
 case hs=>
  simp only[su]
  rw[lH,bK hi,al]
  simp only[ah,ab,Ta _ _ ha,Ta _ _ hb,afl]
  rcases R1 a[i].1 a with⟨h1,h3⟩|⟨x,h1,h2⟩
  ·exact absurd rfl (h3 a[i] (bF hi))
  ·unfold wv
   rw[h2]
   rcases R1 a[i].1 b with⟨k1,_⟩|⟨y,k1,k2⟩
   ·rw[k1];rfl
   ·rw[au (show¬wC a[i].1 b 0<0 by omega),k2]
    simp
 case hf=>
  simp only[su]
  rw[dw]
  simp only[af]
  rfl
 cases a.all (λs=>wv a b s.1)<;>rfl
theorem ait (a b:az Stream)(ha:a.length<=1073741824)(hb:b.length<=1073741824):oh a b=some (a.all (λs=>wv a b s.1)&&b.all (λs=>wv a b s.1)):=by unfold oh;rw[Qk a b ha hb,Qk b a hb ha];have:(λs:Stream=>wv b a s.1)=λs=>wv a b s.1:=funext λs=>YP b a s.1;rw[this];simp only[ab];cases a.all (λs=>wv a b s.1)<;>rfl
def vQ (h:Host):Int:=h.2.2.2.1.foldl (λn q=>ar (n+q.2.2.2.2.2)) 0
theorem Fk (h:Host)(hl:h.2.2.2.1.length<=10^9:=by omega):iL h=some (vQ h):=by unfold iL vQ;refine fold_iter h.2.2.2.1 (λ(s:Int) i=>(s,(i:Int))) (λn q=>ar (n+q.2.2.2.2.2)) (λs=>some s) (by omega) (λi hi s nx=>?_) (λs nx=>?_) 0;simp only[oC];rw[lH,bK hi,al (n:=(i:Int)+1)];rfl;simp only[oC];rw[dw];rfl
def amI (b:Bool):Int:=bif b then 1 else 0
theorem aaL (h:cY m=true)(a:Int)(s:Bytes):cY (nV m a s).1=true:=by unfold nV;cases hw:iT m a (s.length:Int);exact h;simp only[iT,ae,aG]at hw;exact pz.2 (Bw s.length (pz.1 hw.1) (by omega)).1
theorem Xk:∀(q:az (Int×Int)){m:cg}(s:Bytes),cY m=true->cY (Hn q m s)=true
 |[],_,_,h=>h
 |p::q,m,s,h=>by rw[Hn];exact Xk q _ (aaL h _ _)
theorem Gc (h:cY m=true)(l:az aH)(d a:Int)(s:Bytes)(w:Bool):cY (hZ l m d a s w).1=true:=by unfold hZ;cases (lP l m d a (s.length:Int) w).2 with|false=>exact h|true=>exact Xk _ _ h
theorem Mg (h:cY m=true)(l:az aH)(d:Int)(r:na)(s:Bytes):cY (cW l m d r s).1=true:=by
 unfold cW;cases (mJ r==0)||((s.length:Int) !=16);case true=>exact h
 cases (hZ l m d (mi r r.2.2.2) s true).2 with|false=>exact h|true=>exact Gc h ..
theorem Gk {x y:Int}(hb:0<=b/\b<=130944:=by omega)(hn:n=2\/n=4\/n=8\/n=16:=by omega)(hx:0<=x/\x<=2*n-1:=by omega)(hy:0<=y/\y<=2*n-1:=by omega)(hu:(y-x)%(2*n)<=n:=by omega):dB (b,n,x,y)=true:=by have hs:jA n=true:=ig.2 hn;simp only[dB,bN,hs,aS.2 hb,aS.2 hx,aS.2 hy,cr,bC,aG];exact hu
theorem G5 (h:dB r=true):bN r=(r.2.2.2-r.2.2.1)%(2*r.2.1)/\0<=bN r/\bN r<=r.2.1:=by
 have k:=mX h;have e:bN r=(r.2.2.2-r.2.2.1)%(2*r.2.1):=by unfold bN;rw[aJ (ig.2 k.2.2.1)]
 simp only[dB,ae,aG]at h;exact⟨e,by rw[e];exact fV _ (by omega),h.2.2.2.2⟩
theorem LI {x:Int}(hn:0<n:=by omega)(hx:0<=x/\x<=n-1:=by omega):tmod (x+1) n=if x+1=n then 0 else x+1:=by rw[cZ (by omega)];split;rename_i h;rw[h];exact Int.emod_self;exact Int.emod_eq_of_lt (by omega) (by omega)
theorem aeS (h:dB r=true)(hf:bN r<r.2.1):dB (r.1,r.2.1,r.2.2.1,tmod (r.2.2.2+1) (2*r.2.1))=true/\bN (r.1,r.2.1,r.2.2.1,tmod (r.2.2.2+1) (2*r.2.1))=bN r+1:=by
 have k:=mX h;have u:=G5 h;have e:=LI (x:=r.2.2.2) (n:=2*r.2.1);have u2:(tmod (r.2.2.2+1) (2*r.2.1)-r.2.2.1)%(2*r.2.1)=bN r+1:=by
  have h1:(tmod (r.2.2.2+1) (2*r.2.1)-r.2.2.1)%(2*r.2.1)=(r.2.2.2+1-r.2.2.1)%(2*r.2.1):=by rw[e];split;rename_i hh;rw[<-hh,show(r.2.2.2+1-r.2.2.1)=(0-r.2.2.1)+(r.2.2.2+1) by omega,Int.add_emod_right];rfl
  rw[h1,show r.2.2.2+1-r.2.2.1=(r.2.2.2-r.2.2.1)+1 by omega];have h0:=u.1;generalize r.2.2.2-r.2.2.1=d at h0⊢;rw[Int.add_emod,<-h0,Int.emod_eq_of_lt (a:=1) (by omega) (by omega),Int.emod_eq_of_lt (by omega) (by omega)]
 refine⟨Gk ⟨k.1,k.2.1⟩ k.2.2.1 ⟨k.2.2.2.1,k.2.2.2.2.1⟩ (by rw[e];split<;>omega) (by rw[u2];omega),?_⟩;unfold bN;rw[aJ (ig.2 k.2.2.1)];exact u2
theorem ah4 (h:dB r=true)(hf:bN r≠0):dB (r.1,r.2.1,tmod (r.2.2.1+1) (2*r.2.1),r.2.2.2)=true/\bN (r.1,r.2.1,tmod (r.2.2.1+1) (2*r.2.1),r.2.2.2)=bN r-1:=by
 have k:=mX h;have u:=G5 h;have e:=LI (x:=r.2.2.1) (n:=2*r.2.1);have u2:(r.2.2.2-tmod (r.2.2.1+1) (2*r.2.1))%(2*r.2.1)=bN r-1:=by
  have h1:(r.2.2.2-tmod (r.2.2.1+1) (2*r.2.1))%(2*r.2.1)=(r.2.2.2-(r.2.2.1+1))%(2*r.2.1):=by rw[e];split;rename_i hh;rw[<-hh,show(r.2.2.2-0)=(r.2.2.2-(r.2.2.1+1))+(r.2.2.1+1) by omega,Int.add_emod_right];rfl
  rw[h1,show r.2.2.2-(r.2.2.1+1)=(r.2.2.2-r.2.2.1)-1 by omega];have h0:=u.1;generalize r.2.2.2-r.2.2.1=d at h0⊢;rw[Int.sub_emod,<-h0,Int.emod_eq_of_lt (a:=1) (by omega) (by omega),Int.emod_eq_of_lt (by omega) (by omega)]
 refine⟨Gk ⟨k.1,k.2.1⟩ k.2.2.1 (by rw[e];split<;>omega) ⟨k.2.2.2.2.2.1,k.2.2.2.2.2.2⟩ (by rw[u2];omega),?_⟩;unfold bN;rw[aJ (ig.2 k.2.2.1)];exact u2
theorem adn (h:dB r=true):mJ r=r.2.1-bN r:=by have k:=mX h;have u:=G5 h;unfold mJ;rw[h,ah,al]
theorem XQ (h:dB r=true)(l:az aH)(m:cg)(d:Int)(s:Bytes):dB (cW l m d r s).2.1=true/\(cW l m d r s).2.1.2.1=r.2.1:=by
 unfold cW;cases hc:(mJ r==0)||((s.length:Int) !=16);case true=>exact⟨h,rfl⟩
 cases (hZ l m d (mi r r.2.2.2) s true).2 with
 |false=>exact⟨h,rfl⟩
 |true=>
  simp only[cn]at hc;have h1:mJ r≠0:=by simpa using hc.1
  rw[adn h]at h1;have u:=G5 h;exact⟨(aeS h (by omega)).1,rfl⟩
theorem SZ (h:dB r=true)(l:az aH)(m:cg)(d:Int):dB (br l m d r).2.1=true/\(br l m d r).2.1.2.1=r.2.1:=by
 unfold br;cases hc: !dB r||(bN r==0);case true=>exact⟨h,rfl⟩
 cases (qE l m d (mi r r.2.2.1) 16).2 with|false=>exact⟨h,rfl⟩|true=>simp only[cn]at hc;exact⟨(ah4 h (by simpa using hc.2)).1,rfl⟩
theorem agO {l:dA}:(List.range l.length).all (Dz n l)=true↔(∀x∈l,0<=x/\x<=n-1)/\l.Nodup:=by
 rw[aL];constructor;intro h;have k:∀i (hi:i<l.length),(0<=l[i]/\l[i]<=n-1)/\l[i]∉l.take i:=by intro i hi;have:=h i (cB.2 hi);unfold Dz at this;rw[cO hi,ae,aS]at this;exact⟨this.1,by simpa using this.2⟩
 refine⟨λx hx=>?_,?_⟩;obtain⟨i,hi,rfl⟩:=gA hx;exact(k i hi).1;rw[List.Nodup,List.pairwise_iff_getElem];intro i j hi hj hij he;refine(k j hj).2 ?_;rw[<-he];exact List.mem_take_iff_getElem.2 ⟨i,by omega,rfl⟩;rintro⟨h1,h2⟩ i hi;have hi:=cB.1 hi;unfold Dz;rw[cO hi,ae,aS];refine⟨h1 _ (bF hi),?_⟩;have:l[i]∉l.take i:=by intro hm;obtain⟨j,hj,he⟩:=List.mem_take_iff_getElem.1 hm;rw[List.Nodup,List.pairwise_iff_getElem]at h2;exact h2 j i (by omega) hi (by omega) he
 simpa using this
theorem DV:du p=true↔(0<=p.1/\p.1<=130944)/\(1<=p.2.1/\p.2.1<=512)/\(0<=p.2.2.1/\p.2.2.1<=16)/\(∀x∈p.2.2.2,0<=x/\x<=p.2.2.1-1)/\p.2.2.2.Nodup:=by unfold du;simp only[ae,aS,agO]
theorem Gf {p:dy}(h:du p=true){l:dA}(hl:l.Sublist p.2.2.2):du (p.1,p.2.1,p.2.2.1,l)=true:=by have k:=DV.1 h;exact DV.2 ⟨k.1,k.2.1,k.2.2.1,λx hx=>k.2.2.2.1 x (hl.subset hx),k.2.2.2.2.sublist hl⟩
theorem aeL (h:du p=true)(l:dA):du (Ad p l).1=true:=by unfold Ad;cases hg:xX p l with|false=>exact h|true=>unfold xX at hg;simp only[ae]at hg;exact hg.2
theorem J2 {s:pS}:kF n s=true↔(1<=s.2.1/\s.2.1<=n)/\0<=s.1/\s.1<=65535:=by unfold kF;simp only[ae,aS]
structure Fy (t:dN):Prop where
 ring:dB t.1=true
 next:0<=t.2.2.2/\t.2.2.2<=65535
 sent:∀x∈t.2.2.1,(1<=x.2.1/\x.2.1<=t.1.2.1)/\0<=x.1/\x.1<=65535
 pool:du (ix t.2.1 (bG t.2.2.1))=true
 BA:dT t.2.2.1<=t.1.2.1
theorem Fy.free (h:Fy t):du t.2.1=true:=Gf h.pool (List.sublist_append_left _ _)
theorem abB:MQ t=true↔Fy t:=by constructor;intro h;unfold MQ at h;simp only[ae,aS,aL,J2,aG]at h;obtain⟨h1,h2,h3,h4,h5,h6⟩:=h;unfold xX at h5;simp only[ae]at h5;exact⟨h1,h3,h4,h5.2,h6⟩;·intro h;unfold MQ xX;simp only[ae,aS,aL,J2,aG];exact⟨h.ring,h.free,h.next,h.sent,⟨h.free,h.pool⟩,h.BA⟩
theorem LP (a b:az pS):bG (a++b)=bG a++bG b:=by simp[bG]
theorem RL (a b:az pS):dT (a++b)=dT a+dT b:=by simp[dT]
theorem R5:∀(l:az pS)(p:dy),du (ix p (bG l))=true->ou p l=ix p (bG l)
 |[],p,_=>by simp[ou,bG,ix]
 |x::l,p,h=>by
  have e:bG (x::l)=x.2.2++bG l:=by simp[bG]
  rw[e]at h;have h1:du (ix p x.2.2)=true:=Gf (p:=ix p (x.2.2++bG l)) h (by show(p.2.2.2++x.2.2).Sublist (p.2.2.2++(x.2.2++bG l));rw[<-aE];exact List.sublist_append_left _ _);have h0:du p=true:=Gf (p:=ix p x.2.2) h1 (List.sublist_append_left _ _);have hg:(Ad p x.2.2).1=ix p x.2.2:=by unfold Ad xX;rw[h0,h1];rfl
  have ea:ix (ix p x.2.2) (bG l)=ix p (x.2.2++bG l):=by simp[ix]
  rw[ou,hg,R5 l _ (by rw[ea];exact h),ea,e]
theorem aku (h:Fy t)(hr:dB r=true)(hn:r.2.1=t.1.2.1):Fy (r,t.2):=
 ⟨hr,h.next,λx hx=>by show(1<=x.2.1/\x.2.1<=r.2.1)/\_;rw[hn];exact h.sent x hx,h.pool,by show dT t.2.2.1<=r.2.1;rw[hn];exact h.BA⟩
theorem Yq (h:Fy t)(n:Int):Fy (mu t n).1:=by
 unfold mu;cases hc:MQ t&&dD n 0 (t.2.2.1.length:Int);exact h;simp only[ae,aS]at hc;have hs:t.2.2.1.take n.toNat++t.2.2.1.drop n.toNat=t.2.2.1:=cC _ _;have hb:bG t.2.2.1=bG (t.2.2.1.take n.toNat)++bG (t.2.2.1.drop n.toNat):=by rw[<-LP,hs]
 have hp:du (ix t.2.1 (bG (t.2.2.1.take n.toNat)))=true:=Gf (p:=ix t.2.1 (bG t.2.2.1)) h.pool (by show(t.2.1.2.2.2++_).Sublist (t.2.1.2.2.2++_);rw[hb];exact(List.sublist_append_left _ _).append_left _);have hg:=R5 _ _ hp;refine⟨h.ring,h.next,λx hx=>h.sent x (List.mem_of_mem_drop hx),?_,?_⟩;show du (ix (ou t.2.1 (t.2.2.1.take n.toNat)) (bG (t.2.2.1.drop n.toNat)))=true;rw[hg,show ix (ix t.2.1 (bG (t.2.2.1.take n.toNat))) (bG (t.2.2.1.drop n.toNat))=ix t.2.1 (bG t.2.2.1) by rw[hb];simp[ix]];exact h.pool;show dT (t.2.2.1.drop n.toNat)<=t.1.2.1;have h1:dT t.2.2.1=dT (t.2.2.1.take n.toNat)+dT (t.2.2.1.drop n.toNat):=by rw[<-RL,hs]
 have h2:0<=dT (t.2.2.1.take n.toNat):=AH t.1.2.1 _ (by rw[aL];exact λx hx=>J2.2 (h.sent x (List.mem_of_mem_take hx)));have:=h.BA;omega
theorem N5 (l:az aH)(m:cg)(d:Int):∀(n:Nat)(acc:az E5)(r:na),dB r=true->dB (sE l m d n acc r).2.1=true/\(sE l m d n acc r).2.1.2.1=r.2.1
 |0,acc,r,h=>⟨h,rfl⟩
 |n+1,acc,r,h=>by have k:=mX h;have ht:=SZ h l m d;rw[sE];cases !(br l m d r).2.2|| !(cL (br l m d r).1).2 with|true=>exact⟨Gk ⟨k.1,k.2.1⟩ k.2.2.1 ⟨k.2.2.2.2.2.1,k.2.2.2.2.2.2⟩ ⟨k.2.2.2.2.2.1,k.2.2.2.2.2.2⟩ (by rw[Int.sub_self,Int.zero_emod];omega),rfl⟩|false=>cases Hj (cL (br l m d r).1).1 with|true=>exact ht|false=>have:=N5 l m d n (acc++[(cL (br l m d r).1).1]) _ ht.1;exact⟨this.1,this.2.trans ht.2⟩
theorem Zi (h:dB r=true)(l:az aH)(m:cg)(d:Int):dB (dh l m d r).2.1=true/\(dh l m d r).2.1.2.1=r.2.1:=by unfold dh;cases !dB r||(bN r==0)with|true=>exact⟨h,rfl⟩|false=>exact N5 l m d _ _ _ h
theorem Xx (h:dB r=true)(l:az aH)(m:cg)(d:Int):dB (iA l m d r).1=true/\(iA l m d r).1.2.1=r.2.1:=by
 have hc:=Zi h l m d;unfold iA;cases !dB r||(bN r==0);case true=>exact⟨h,rfl⟩
 cases !(dh l m d r).2.2|| !(fT (dh l m d r).1).2.2.2;case true=>exact hc
 cases !(lU l m d (fT (dh l m d r).1).1).2||(!(xW (lU l m d (fT (dh l m d r).1).1).1).2||((ka (xW (lU l m d (fT (dh l m d r).1).1).1).1).2 !=0))with|true=>exact hc|false=>exact hc
theorem GC (l:az aH)(m:cg)(d:Int):∀(n:Nat)(fr:cg)(dn bd:Nat)(r:na),dB r=true->dB (oo l m d n fr dn bd r).1=true/\(oo l m d n fr dn bd r).1.2.1=r.2.1
 |0,fr,dn,bd,r,h=>⟨h,rfl⟩
 |n+1,fr,dn,bd,r,h=>by
  have k:=Xx h l m d;rw[oo];cases (iA l m d r).2.2==0;case true=>exact⟨h,rfl⟩
  cases (iA l m d r).2.2==1 with|true=>have:=GC l m d n (fr++(iA l m d r).2.1) (dn+1) bd _ k.1;exact⟨this.1,this.2.trans k.2⟩|false=>have:=GC l m d n (fr++(iA l m d r).2.1) dn (bd+1) _ k.1;exact⟨this.1,this.2.trans k.2⟩
theorem JU (l:az aH)(d:Int):∀(q:cg)(m:cg)(r:na){x},oK l d q m r=some x->(dB r=true->dB x.2=true/\x.2.2.1=r.2.1)/\(cY m=true->cY x.1=true)
 |[],m,r,x,h=>by cases h;exact⟨λh=>⟨h,rfl⟩,λh=>h⟩
 |s::q,m,r,x,h=>by rw[oK]at h;cases hq:(cW l m d r s).2.2 with|false=>rw[hq]at h;cases h|true=>rw[hq]at h;have k:=JU l d q _ _ h;refine⟨λhr=>?_,λhm=>k.2 (Mg hm ..)⟩;have hp:=XQ hr l m d s;have:=k.1 hp.1;exact⟨this.1,this.2.trans hp.2⟩
theorem Sy (l:az aH)(d:Int)(p:dy)(z:Nat):∀(q:dA)(s:Bytes)(m:cg)(a:az ij){x},ud l d p z q s m a=some x->cY m=true->cY x.2=true
 |[],s,m,a,x,h,hm=>by cases h;exact hm
 |b::q,s,m,a,x,h,hm=>by rw[ud]at h;cases hq:(hZ l m d (oy p b) (s.take z) false).2 with|false=>rw[hq]at h;cases h|true=>rw[hq]at h;exact Sy l d p z q _ _ _ h (Gc hm ..)
theorem aeM (h:du p=true){l:dA}(hl:l.Perm p.2.2.2):du (p.1,p.2.1,p.2.2.1,l)=true:=by have k:=DV.1 h;exact DV.2 ⟨k.1,k.2.1,k.2.2.1,λx hx=>k.2.2.2.1 x (hl.mem_iff.1 hx),hl.nodup_iff.2 k.2.2.2.2⟩
theorem ae1 (h:Fy t)(hm:cY m=true)(l:az aH)(d c:Int){n:Nat}(hf:Ff t n=true)(x:az ij×cg)(hx:cY x.2=true):cY (J1 l m d t c n x).1=true/\Fy (J1 l m d t c n x).2.1:=by
 unfold J1 qu;cases hp:oK l d ((jW x.1 c t.2.2.2).map iJ) x.2 t.1 with
 |none=>exact⟨hm,h⟩
 |some y=>
  have k:=JU l d _ _ _ hp;have kr:=k.1 h.ring;refine⟨k.2 hx,?_⟩;unfold Ff at hf;simp only[ae,aN,cG]at hf;have ht:kb t.2.1 (n:Int)=((t.2.1.1,t.2.1.2.1,t.2.1.2.2.1,t.2.1.2.2.2.drop n),t.2.1.2.2.2.take n,true):=by have h1:=hf.1;unfold kb at h1⊢;cases hc:du t.2.1&&dD (n:Int) 0 (t.2.1.2.2.2.length:Int)with|false=>rw[hc]at h1;cases h1|true=>simp only[ah,ax]
  have h0:0<=dT t.2.2.1:=AH t.1.2.1 _ (by rw[aL];exact λx hx=>J2.2 (h.sent x hx));show Fy (y.2,(kb t.2.1 (n:Int)).1,t.2.2.1++[(t.2.2.2,(n:Int)+1,(kb t.2.1 (n:Int)).2.1)],tmod (t.2.2.2+1) 65536);rw[ht];have hn:=h.next
  refine⟨kr.1,?_,?_,?_,?_⟩;have:=LI (x:=t.2.2.2) (n:=65536);show 0<=tmod (t.2.2.2+1) 65536/\tmod (t.2.2.2+1) 65536<=65535;rw[this];split<;>omega;intro s hs;show(1<=s.2.1/\s.2.1<=y.2.2.1)/\0<=s.1/\s.1<=65535;rw[kr.2];rcases ay.1 hs with hs|hs;exact h.sent s hs;rw[bA.1 hs];show(1<=(n:Int)+1/\(n:Int)+1<=t.1.2.1)/\0<=t.2.2.2/\t.2.2.2<=65535;omega;refine aeM (p:=ix t.2.1 (bG t.2.2.1)) h.pool ?_;show(t.2.1.2.2.2.drop n++bG (t.2.2.1++[_])).Perm (t.2.1.2.2.2++bG t.2.2.1);rw[LP,show bG [(t.2.2.2,(n:Int)+1,t.2.1.2.2.2.take n)]=t.2.1.2.2.2.take n by simp[bG]];refine(List.perm_append_comm_assoc _ _ _).trans ?_;refine(List.perm_append_comm).trans ?_;exact((List.perm_append_comm.trans (by rw[cC])).append_right _);show dT (t.2.2.1++[_])<=y.2.2.1;rw[RL,kr.2,show dT [(t.2.2.2,(n:Int)+1,t.2.1.2.2.2.take n)]=(n:Int)+1 by simp[dT]];omega
theorem ae0 (h:Fy t)(hm:cY m=true)(l:az aH)(d:Int)(p:aM)(c z:Int):cY (pC l m d t p c z).1=true/\Fy (pC l m d t p c z).2.1:=by unfold pC;cases MQ t&&(cH p&&(dD z 1 t.2.1.2.1&&dD c 1 128));exact⟨hm,h⟩;cases hf:Ff t (wj p z.toNat);exact⟨hm,h⟩;simp only[ah];cases hw:ud l d t.2.1 z.toNat (kb t.2.1 (wj p z.toNat:Int)).2.1 (kV p).1 m []with|none=>exact⟨hm,h⟩|some x=>exact ae1 h hm l d c hf x (Sy l d _ _ _ _ _ _ hw hm)
theorem XW {s k f w:Int}{x:Bytes}(h1:0<=a/\a<=65535)(h2:0<=b/\b<=65535)(h3:0<=s/\s<=4294967295)(h4:0<=k/\k<=4294967295)(h5:0<=f/\f<=31)(h6:0<=w/\w<=65535)(hx:x.length<=320):sA (6,a,b,s,k,f,w,x)=true:=by have BE:decide ((x.length:Int)>320)=false:=dw;simp only[sA,aS.2 h1,aS.2 h2,aS.2 h3,aS.2 h4,aS.2 h5,aS.2 h6,BE];rfl
theorem aib {x:Bytes}(h1:0<=a/\a<=65535)(h2:0<=b/\b<=65535)(hx:x.length<=320):sA (17,a,b,0,0,0,0,x)=true:=by have BE:decide ((x.length:Int)>320)=false:=dw;simp only[sA,aS.2 h1,aS.2 h2,BE];rfl
theorem aeW {x:Bytes}(h:sA g=true)(hx:x.length<=320):sA (g.1,g.2.1,g.2.2.1,g.2.2.2.1,g.2.2.2.2.1,g.2.2.2.2.2.1,g.2.2.2.2.2.2.1,x)=true:=by have e:decide ((x.length:Int)>320)=false:=dw;unfold sA at h⊢;simp only[ae]at h⊢;exact⟨h.1,h.2.1,by rw[e];rfl,h.2.2.2⟩
theorem agU {v t l s:Int}(h1:0<=a/\a<=281474976710655)(h2:0<=b/\b<=281474976710655)(h3: -1<=v/\v<=4095)(h4:0<=t/\t<=255)(h5:0<=i/\i<=65535)(h6:0<=l/\l<=255)(h7:0<=s/\s<=4294967295)(h8:0<=d/\d<=4294967295)(hg:sA g=true):ov (a,b,v,t,i,l,s,d,g)=true:=by simp only[ov,aS.2 h1,aS.2 h2,aS.2 h3,aS.2 h4,aS.2 h5,aS.2 h6,aS.2 h7,aS.2 h8,hg];rfl
theorem Xy (p:aM):gb p=true↔ov p=true/\p.2.2.2.2.2.2.2.2.2.2.2.2.2.2.2.length<=128:=by unfold gb cH;rw[ae,ae,cJ,aG];constructor;rintro⟨⟨h1,_⟩,h2⟩;exact⟨h1,by omega⟩;rintro⟨h1,h2⟩;exact⟨⟨h1,Or.inl (by omega)⟩,by omega⟩
theorem acD (h:sA g=true)(h6:g.1=6):(0<=g.2.1/\g.2.1<=65535)/\(0<=g.2.2.1/\g.2.2.1<=65535)/\(0<=g.2.2.2.1/\g.2.2.2.1<=4294967295)/\(0<=g.2.2.2.2.1/\g.2.2.2.2.1<=4294967295)/\(0<=g.2.2.2.2.2.1/\g.2.2.2.2.2.1<=31)/\(0<=g.2.2.2.2.2.2.1/\g.2.2.2.2.2.2.1<=65535)/\g.2.2.2.2.2.2.2.length<=320:=by have hl:=D4 h;unfold sA at h;rw[h6]at h;simp only[ae,aS,show((6:Int)==17)=false from rfl,af]at h;exact⟨h.1,h.2.1,h.2.2.2.2.1,h.2.2.2.2.2.1,h.2.2.2.2.2.2.1,h.2.2.2.2.2.2.2,hl⟩
theorem Qb (h:sA g=true)(h6:g.1=6){s f:Int}{x:Bytes}(hs:0<=s/\s<=4294967295)(hf:0<=f/\f<=31)(hx:x.length<=320):sA (g.1,g.2.1,g.2.2.1,s,g.2.2.2.2.1,f,g.2.2.2.2.2.2.1,x)=true:=by have k:=acD h h6;rw[h6];exact XW k.1 k.2.1 hs k.2.2.2.1 hf k.2.2.2.2.2.1 hx
theorem DF {p:aM}(h:ov p=true)(hi:0<=i/\i<=65535)(hg:sA g=true):ov (p.1,p.2.1,p.2.2.1,p.2.2.2.1,i,p.2.2.2.2.2.1,p.2.2.2.2.2.2.1,p.2.2.2.2.2.2.2.1,g)=true:=by unfold ov at h⊢;simp only[ae]at h⊢;exact⟨h.1,h.2.1,h.2.2.1,h.2.2.2.1,h.2.2.2.2.1,aS.2 hi,h.2.2.2.2.2.2.1,h.2.2.2.2.2.2.2.1,hg⟩
theorem OT {p:aM}(h:ov p=true):0<=p.2.2.2.2.1/\p.2.2.2.2.1<=65535:=by unfold ov at h;simp only[ae]at h;exact aS.1 h.2.2.2.2.2.1
theorem aj1 (h:0<=i/\i<=65535):0<=tmod (ar (i+1)) 65536/\tmod (ar (i+1)) 65536<=65535:=by rw[al];have h1:=Int.tmod_nonneg 65536 (a:=i+1) (by omega);have h2:=Int.tmod_lt_of_pos (i+1) (b:=65536) (by omega);omega
theorem ahL {s:Int}{n:Nat}(h:0<=s/\s<=4294967295)(hn:n<=320):0<=tmod (ar (s+(n:Int))) 4294967296/\tmod (ar (s+(n:Int))) 4294967296<=4294967295:=by rw[al];have h1:=Int.tmod_nonneg 4294967296 (a:=s+(n:Int)) (by omega);have h2:=Int.tmod_lt_of_pos (s+(n:Int)) (b:=4294967296) (by omega);omega
theorem Ej (v:Vector):Ei v=true↔1<=v.2.2.1/\(v.1<=v.2.2.1\/v.2.1<=v.2.2.2.1):=by unfold Ei;by_cases h1:v.2.2.1>=1;rw[aw h1,ah];by_cases h2:v.2.2.1>=v.1;rw[aw h2];simp;omega;rw[au h2,af,aG];omega;rw[au h1];simp;omega
theorem amY (v:Vector):dW v=(dD v.1 1 64&&(dD v.2.1 0 64&&(dD v.2.2.1 0 1000000&&(dD v.2.2.2.1 0 1000000&&((decide (v.2.2.1>0)||(v.2.2.2.1==0))&&(v.2.2.2.2.2==(Ei v&& !v.2.2.2.2.1))))))):=by have h:=ES v;unfold mn at h;simp only[dR,ake,ab]at h;generalize dW v=w at h⊢;revert h;cases dD v.1 1 64;(intro h;cases h;rfl);cases dD v.2.1 0 64;(intro h;cases h;rfl);cases dD v.2.2.1 0 1000000;(intro h;cases h;rfl);cases dD v.2.2.2.1 0 1000000;(intro h;cases h;rfl);cases decide (v.2.2.1>0)<;>cases (v.2.2.2.1==0)<;>cases Ei v<;>(intro h;cases h;rfl)
theorem uc (v:Vector):dW v=true↔(1<=v.1/\v.1<=64)/\(0<=v.2.1/\v.2.1<=64)/\(0<=v.2.2.1/\v.2.2.1<=1000000)/\(0<=v.2.2.2.1/\v.2.2.2.1<=1000000)/\(v.2.2.1>0\/v.2.2.2.1=0)/\v.2.2.2.2.2=(Ei v&& !v.2.2.2.2.1):=by rw[amY];simp only[ae,aS,cJ,aG,bn]
theorem IT (h1:1<=v.1/\v.1<=64)(h2:0<=v.2.1/\v.2.1<=64)(h3:0<=v.2.2.1/\v.2.2.1<=1000000)(h4:0<=v.2.2.2.1/\v.2.2.2.1<=1000000)(h5:v.2.2.1>0\/v.2.2.2.1=0)(hr:v.2.2.2.2.2=true->Ei v=true/\v.2.2.2.2.1=false):dW (uh v)=true:=by unfold uh;cases hd:Ei v&& !v.2.2.2.2.1 with|true=>exact(uc _).2 ⟨h1,h2,h3,h4,h5,by show true=(Ei v&& !v.2.2.2.2.1);rw[hd]⟩|false=>refine(uc _).2 ⟨h1,h2,h3,h4,h5,?_⟩;rw[af,hd];cases hv:v.2.2.2.2.2 with|false=>rfl|true=>have:=hr hv;rw[this.1,this.2]at hd;cases hd
theorem EK (h:dW v=true)(hr:v.2.2.2.2.2=true):Ei v=true/\v.2.2.2.2.1=false:=by have:=((uc v).1 h).2.2.2.2.2;rw[hr]at this;cases hd:Ei v with|false=>rw[hd]at this;cases this|true=>rw[hd]at this;cases hm:v.2.2.2.2.1 with|true=>rw[hm]at this;cases this|false=>exact⟨rfl,rfl⟩
theorem abC (h:0<=n/\n<=1000000):n<=NJ n/\0<NJ n/\NJ n<=1000000:=by unfold NJ;rw[al];split<;>omega
theorem ai0 (h:dW v=true):dW (evV v)=true:=by have k:=(uc v).1 h;have u:=abC k.2.2.1;unfold evV;rw[h,ah];refine IT (v:=(v.1,v.2.1,NJ v.2.2.1,v.2.2.2)) k.1 k.2.1 ⟨by show 0<=NJ v.2.2.1;omega,u.2.2⟩ k.2.2.2.1 (Or.inl u.2.1) λhr=>?_;have d:=EK h hr;have d1:=(Ej v).1 d.1;exact⟨(Ej _).2 ⟨by show 1<=NJ v.2.2.1;omega,by show v.1<=NJ v.2.2.1\/v.2.1<=v.2.2.2.1;omega⟩,d.2⟩
theorem QA (h:dW v=true):dW (zT v)=true:=by have k:=(uc v).1 h;have u:=abC k.2.2.2.1;unfold zT;rw[h,ah];by_cases h0:v.2.2.1>0;rw[aw h0,ah];refine IT (v:=(v.1,v.2.1,v.2.2.1,NJ v.2.2.2.1,v.2.2.2.2)) k.1 k.2.1 k.2.2.1 ⟨by show 0<=NJ v.2.2.2.1;omega,u.2.2⟩ (Or.inl h0) λhr=>?_;have d:=EK h hr;have d1:=(Ej v).1 d.1;exact⟨(Ej _).2 ⟨d1.1,by show v.1<=v.2.2.1\/v.2.1<=NJ v.2.2.2.1;omega⟩,d.2⟩;rw[au h0,af];exact IT k.1 k.2.1 k.2.2.1 k.2.2.2.1 k.2.2.2.2.1 λhr=>EK h hr
theorem Yt (h:dW v=true):dW (re v).1=true:=by have k:=(uc v).1 h;unfold re;cases dW v&&v.2.2.2.2.2 with|false=>exact h|true=>exact(uc _).2 ⟨k.1,k.2.1,⟨eV _,by show(0:Int)<=1000000;omega⟩,⟨eV _,by show(0:Int)<=1000000;omega⟩,Or.inr rfl,by show false=(_&& !true);simp⟩
theorem abD (h:dW v=true):dW (Bu v)=true:=by have k:=(uc v).1 h;unfold Bu;rw[h,ah];refine IT (v:=(v.1,v.2.1,v.2.2.1,v.2.2.2.1,false,v.2.2.2.2.2)) k.1 k.2.1 k.2.2.1 k.2.2.2.1 k.2.2.2.2.1 λhr=>?_;exact⟨(Ej _).2 ((Ej v).1 (EK h hr).1),rfl⟩
theorem afs (h:dW v=true):dW (v.1,v.2.1,0,0,false,false)=true:=by have k:=(uc v).1 h;exact(uc _).2 ⟨k.1,k.2.1,⟨eV _,by show(0:Int)<=1000000;omega⟩,⟨eV _,by show(0:Int)<=1000000;omega⟩,Or.inr rfl,by simp[Ei]⟩
structure xQ (n:Int) (r:bt):Prop where
 ring:dB r.1=true
 dev:gD r.2.1=true
 RS:gD r.2.2.1=true
 base:r.2.1.1=r.2.2.1.1
 size:r.2.1.2.1=r.2.2.1.2.1
 drop:0<=r.2.2.2.2.2/\r.2.2.2.2.2<=n
 held:r.2.2.2.2.1=true->cH r.2.2.2.1.1=true/\(0<=r.2.2.2.1.2.1/\r.2.2.2.1.2.1<=320)/\1<=r.2.2.2.1.2.2/\r.2.2.2.1.2.2<=320
 free:r.2.2.2.2.1=false->r.2.2.2.1=afn
theorem Gm (r:bt):BK r=true↔xQ 1000000000000 r:=by constructor;intro h;unfold BK at h;rw[ae]at h;simp only[ae,bn,aS]at h;obtain⟨⟨h1,h2,h3,h4,h5,h6⟩,h7⟩:=h;refine⟨h1,h2,h3,h4,h5,h6,λhh=>?_,λhh=>?_⟩;rw[hh,ah]at h7;simp only[ae,aS]at h7;exact⟨h7.1,h7.2.1,h7.2.2⟩;rw[hh,af]at h7;exact(aiw _).1 h7;intro h;unfold BK;rw[ae];simp only[ae,bn,aS];refine⟨⟨h.ring,h.dev,h.RS,h.base,h.size,h.drop⟩,?_⟩;cases hh:r.2.2.2.2.1 with|true=>have:=h.held hh;simp only[ah,ae,aS];exact⟨this.1,this.2.1,this.2.2⟩|false=>rw[af];exact(aiw _).2 (h.free hh)
theorem xQ.mono {m:Int}{r:bt}(h:xQ n r)(hn:n<=m:=by omega):xQ m r:=⟨h.ring,h.dev,h.RS,h.base,h.size,⟨h.drop.1,by have:=h.drop.2;omega⟩,h.held,h.free⟩
theorem xQ.rx {r:bt}(h:xQ n r)(hn:n<=1000000000000):BK r=true:=(Gm r).2 (h.mono hn)
theorem aei (h:cY m=true)(l:az aH)(d:Int)(q:MT)(x:zW):cY (sS l m d q x).1=true:=by
 unfold sS;cases !gD q|| !rD x;case true=>exact h
 cases (hZ l m d (sV q) (I1 x (Aj q)) true).2 with|false=>exact h|true=>exact Gc h ..
theorem aej (h:cY m=true)(l:az aH)(d:Int)(q:bt)(k s:Bytes):cY (gF l m d q k s).1=true:=by
 unfold gF;cases !(cL s).2||(((cL s).1.1 !=3)||decide ((cL s).1.2.2.1<((cV q.2.2.2.1.1).1.length:Int)));case true=>exact h
 cases (hZ l m d (cL s).1.2.2.2.1 (cV q.2.2.2.1.1).1 true).2 with|false=>exact h|true=>exact aei (Gc h ..) ..
theorem ako {k s:Bytes}(hm:cY m=true)(hq:gD q.2.1=true):gD (gF l m d q k s).2.1=true/\(gF l m d q k s).2.1.1=q.2.1.1/\(gF l m d q k s).2.1.2.1=q.2.1.2.1:=(Te (n:=128) (by omega) (SJ (by omega) (pz.1 hm)) hq).2.2
theorem BT (hn:n<=900000000000)(h:xQ n q)(hm:cY m=true)(l:az aH)(d:Int)(k:Bytes):cY (fX l m d q k).1=true/\xQ (n+320) (fX l m d q k).2:=by
 unfold fX;cases hc: !BK q||(!q.2.2.2.2.1||((k.length:Int) !=16));case true=>exact⟨hm,h.mono⟩
 simp only[cn,dM]at hc;have hh:=h.held hc.2.1;have hd:=h.drop;have hr:=SZ h.ring l m d;have hs:=ako (l:=l) (d:=d) (k:=k) (s:=(br l m d q.1).1) hm h.dev;simp only[af];cases (br l m d q.1).2.2&&(gF l m d q k (br l m d q.1).1).2.2 with|true=>exact⟨aej hm ..,hr.1,hs.1,h.RS,hs.2.1.trans h.base,hs.2.2.trans h.size,⟨hd.1,by show q.2.2.2.2.2<=n+320;omega⟩,λhf=>(by cases hf),λ_=>rfl⟩|false=>refine⟨hm,hr.1,h.dev,h.RS,h.base,h.size,?_,λhf=>(by cases hf),λ_=>rfl⟩;show 0<=ar (q.2.2.2.2.2+q.2.2.2.1.2.2)/\ar (q.2.2.2.2.2+q.2.2.2.1.2.2)<=n+320;rw[al];omega
theorem acp {s:nr}{p:aM}(h:Fs s p=true):cH (ue s p).1=true/\(0<=(ue s p).2.1/\(ue s p).2.1<=320)/\1<=(ue s p).2.2/\(ue s p).2.2<=320:=by
 have hl:=TD h;unfold ue;rw[h,ah];simp only[Fs,acb,X1,ae,aG,aS,bn]at h;obtain⟨⟨hs,hp,an0,h6,Uf,hf⟩,⟨hz,hc,hn,Er,atm⟩,_⟩:=h;have atj:s.2.2+1<=320:=by
  have:s.2.2<=s.2.1*s.2.2:=by have:=Int.mul_le_mul_of_nonneg_right hz (show 0<=s.2.2 by omega);omega
  omega
 have an9:s.2.1<=320:=by
  have:s.2.1<=s.2.1*s.2.2:=by have:=Int.mul_le_mul_of_nonneg_left hc.1 (show 0<=s.2.1 by omega);omega
  omega
 refine⟨?_,⟨by show 0<=s.2.1;omega,an9⟩,?_⟩;have hh:ov s.1=true:=by unfold cH at hs;simp only[ae]at hs;exact hs.1
 have hk:s.1.2.2.2.2.2.2.2.2.1=6:=by
  have e:s.1.2.2.2.2.2.2.2.2.1=p.2.2.2.2.2.2.2.2.1:=by have h2:=an0;unfold SM at h2;simp only[ae,bn]at h2;exact h2.2.2.2.2.2.2.2.1
  rw[e];exact h6
 have hsg:=wE hh;have hfl:dD p.2.2.2.2.2.2.2.2.2.2.2.2.2.1 0 31=true:=JR hp (by rw[h6];rfl);have hg:=Qb hsg hk (acD hsg hk).2.2.1 (aS.1 hfl) (x:=s.1.2.2.2.2.2.2.2.2.2.2.2.2.2.2.2++p.2.2.2.2.2.2.2.2.2.2.2.2.2.2.2) (by rw[aj];omega);unfold cH;rw[ae];refine⟨DF hh (OT hh) hg,?_⟩;show(_||(s.1.2.2.2.2.2.2.2.2.1==6)&&BR p.2.2.2.2.2.2.2.2.2.2.2.2.2.1)=true;rw[hk,hf];simp;show 1<=ar (s.2.2+1)/\ar (s.2.2+1)<=320;rw[al];omega
theorem Nv (h:xQ n q){s:nr}(hs:cH s.1=true)(h1:0<=s.2.1/\s.2.1<=320)(h2:1<=s.2.2/\s.2.2<=320):xQ n (DG q s):=⟨h.ring,h.dev,h.RS,h.base,h.size,h.drop,λ_=>⟨hs,h1,h2⟩,λhf=>(by cases hf)⟩
theorem D5 {p:aM}(h:gb p=true):cH (jc p).1=true/\(0<=(jc p).2.1/\(jc p).2.1<=320)/\1<=(jc p).2.2/\(jc p).2.2<=320:=by
 have hl:=Im h;have hs:cH p=true:=by unfold gb at h;simp only[ae]at h;exact h.1
 refine⟨hs,?_,by show(1:Int)<=1/\(1:Int)<=320;omega⟩;show 0<=(p.2.2.2.2.2.2.2.2.2.2.2.2.2.2.2.length:Int)/\(p.2.2.2.2.2.2.2.2.2.2.2.2.2.2.2.length:Int)<=320;omega
theorem VD (hn:n<=800000000000)(h:xQ n q)(hm:cY m=true)(l:az aH)(d:Int)(k:Bytes)(p:aM)(c:Bool):cY (je l m d q k p c).1=true/\xQ (n+640) (je l m d q k p c).2:=by
 unfold je;cases hc: !BK q||(!gb p||((k.length:Int) !=16));case true=>exact⟨hm,h.mono⟩
 simp only[cn,dM]at hc;have hs:=D5 hc.2.1;have hf:=BT (by omega) h hm l d k;have DH:=Nv hf.2 hs.1 hs.2.1 hs.2.2;simp only[af];cases hj:c&&(q.2.2.2.2.1&&Fs q.2.2.2.1 p)with|true=>simp only[ae]at hj;have j:=acp hj.2.2;exact⟨hm,h.ring,h.dev,h.RS,h.base,h.size,⟨h.drop.1,by show q.2.2.2.2.2<=n+640;have:=h.drop.2;omega⟩,λ_=>j,λhf=>(by have hf:q.2.2.2.2.1=false:=hf;rw[hj.2.1]at hf;cases hf)⟩|false=>simp only[af];cases c with|true=>exact⟨hf.1,DH.mono⟩|false=>have:=BT (by omega) DH hf.1 l d k;exact⟨this.1,this.2.mono⟩
theorem amG {q:MT}(h:gD q=true):gD (lM l m d q).2.1=true/\(lM l m d q).2.1.1=q.1/\(lM l m d q).2.1.2.1=q.2.1:=by unfold lM;cases JO l m d q with|false=>exact⟨h,rfl,rfl⟩|true=>have k:=xk h;refine⟨?_,rfl,rfl⟩;have e:=Vm (a:=q.2.2+1) (b:=2*q.2.1);simp only[ah,ahK,gD,ae,aS]at h⊢;refine⟨h.1,h.2.1,?_⟩;rw[yi h.2.1];omega
theorem aa2 (h:xQ n s.2.1)(hp:du s.2.2=true)(l:az aH)(m:cg)(d:Int):xQ n (vX l m d s).2.1/\du (vX l m d s).2.2=true:=by have k:=amG (l:=l) (m:=m) (d:=d) h.RS;exact⟨⟨h.ring,h.dev,k.1,h.base.trans k.2.1.symm,h.size.trans k.2.2.symm,h.drop,h.held,h.free⟩,aeL hp _⟩
theorem PT (l:az aH)(m:cg)(d:Int):∀(k:Nat)(s:az Stream×bt×dy),xQ n s.2.1->du s.2.2=true->xQ n (jf l m d k s).2.2.1/\du (jf l m d k s).2.2.2=true
 |0,s,h,hp=>⟨h,hp⟩
 |k+1,s,h,hp=>by rw[jf];cases (lM l m d s.2.1.2.2.1).2.2 with|false=>exact⟨h,hp⟩|true=>have e:=aa2 h hp l m d;exact PT l m d k _ e.1 e.2
theorem Ov (l:az aH)(d:Int)(p:dy):∀(q:dA)(m:cg)(r:na),cY m=true->dB r=true->cY (kO l d p q m r).2.1=true/\dB (kO l d p q m r).2.2=true
 |[],m,r,hm,hr=>⟨hm,hr⟩
 |b::q,m,r,hm,hr=>by rw[kO];cases (cW l m d r (fP p b)).2.2 with|false=>exact⟨hm,hr⟩|true=>exact Ov l d p q _ _ (Mg hm ..) (XQ hr ..).1
theorem RZ (hm:cY m=true)(hr:dB r=true)(hp:du p=true)(l:az aH)(d:Int):cY (pW l m d r p).1=true/\dB (pW l m d r p).2.1=true/\du (pW l m d r p).2.2.1=true:=by unfold pW;rw[hr,hp];have k:=Ov l d p p.2.2.2 m r hm hr;exact⟨k.1,k.2,Gf hp (List.drop_sublist _ _)⟩
theorem SQ {rx:bt}(h:xQ n rx)(hm:cY m=true){pl:dy}(hp:du pl=true)(l:az aH)(d:Int)(st:az Stream)(c:Int):cY (gU l m d rx pl st c).1=true/\xQ n (gU l m d rx pl st c).2.1/\du (gU l m d rx pl st c).2.2.1=true:=by
 unfold gU;cases !BK rx||(!du pl|| !dD c 0 1000);case true=>exact⟨hm,h,hp⟩
 have k:=PT l m d c.toNat (st,rx,pl) h hp;have f:=RZ hm k.1.ring k.2 l d;exact⟨f.1,⟨f.2.1,k.1.dev,k.1.RS,k.1.base,k.1.size,k.1.drop,k.1.held,k.1.free⟩,f.2.2⟩
structure Good (n:Int) (h:Host):Prop where
 mem:cY h.1=true
 maps:gy h.2.1=true
 tx:Fy h.2.2.1
 Hk:nB h.2.2.2.2.2.2.2.1=true
 lens:po h=true
 Ke:fu h.2.2.2.2.2.2.2.2.1 (h.2.2.2.1.length:Int)=true
 rx:∀r∈h.2.2.2.1,xQ n r
 pool:∀p∈h.2.2.2.2.1,du p=true
 vec:∀v∈h.2.2.2.2.2.1,dW v=true
 BA:∀x∈iD h,0<=x/\x<=n
theorem Good.mono {m:Int}(g:Good n h)(hn:n<=m:=by omega):Good m h:=⟨g.mem,g.maps,g.tx,g.Hk,g.lens,g.Ke,λr hr=>(g.rx r hr).mono hn,g.pool,g.vec,λx hx=>⟨(g.BA x hx).1,by have:=(g.BA x hx).2;omega⟩⟩
theorem ag4 (h:Host):fb h=true↔Good 1000000000000 h:=by unfold fb S0;simp only[ae,aL,aS,abB,Gm];constructor;rintro⟨h1,h2,h3,h4,h5,h6,⟨h7,h8,h9⟩,h10⟩;exact⟨h1,h2,h3,h4,h5,h6,h7,h8,h9,h10⟩;intro g;exact⟨g.mem,g.maps,g.tx,g.Hk,g.lens,g.Ke,⟨g.rx,g.pool,g.vec⟩,g.BA⟩
theorem Good.ok (g:Good n h)(hn:n<=1000000000000):fb h=true:=(ag4 h).2 (g.mono hn)
theorem tf {P:α->Prop}{l:az α}{i:Nat}{v:α}(h:∀x∈l,P x)(hv:P v):∀x∈l.set i v,P x:=by intro x hx;rcases fI hx with g|g;exact h x g;rw[g];exact hv
theorem ajs (g:Good n h)(k:Nat):Good n (evS k h):=by unfold evS;cases hv:h.2.2.2.2.2.1[k]? with|none=>exact g|some v=>exact⟨g.mem,g.maps,g.tx,g.Hk,by have:=g.lens;unfold po at this⊢;rw[aD];exact this,g.Ke,g.rx,g.pool,tf g.vec (ai0 (g.vec v (aQ hv))),g.BA⟩
theorem Wj (g:Good n h)(k:Nat):∀i,Good n (ZP k i h)
 |0=>g
 |i+1=>ajs (Wj g k i) k
theorem L4 (g:Good n h)(k:Nat)(b:Int){f:cg×bt}(h1:cY f.1=true)(h2:xQ n f.2):Good n (uq h k b f):=by refine Wj (h:=DX h k f) ⟨h1,g.maps,g.tx,g.Hk,?_,?_,tf g.rx h2,g.pool,g.vec,g.BA⟩ _ _;have:=g.lens;unfold po DX at*;simp only[aD];exact this;show fu _ ((h.2.2.2.1.set k f.2).length:Int)=true;rw[aD];exact g.Ke
theorem CD (hn:n<=800000000000)(g:Good n h)(k:Nat):Good (n+320) (fC k h):=by unfold fC;cases hx:h.2.2.2.1[k]? with|none=>exact g.mono|some x=>have f:=BT (by omega) (g.rx x (aQ hx)) g.mem h.2.1 0 h.2.2.2.2.2.2.2.2.1.2.2.1;exact L4 (g.mono) k _ f.1 f.2
theorem H6 (hn:n<=700000000000)(g:Good n h):Good (n+640) (ko h):=by
 unfold ko;have hl:=nM g.lens;cases fb h with
 |false=>exact g.mono
 |true=>
  have key:∀k:Nat,k<=2->Good (n+320*(k:Int)) (eQ fC k h):=by intro k;induction k with|zero=>intro _;exact g.mono|succ k ih=>intro hk;exact(CD (by omega) (ih (by omega)) k).mono
  exact(key _ hl.1).mono (by have:=hl.1;omega)
theorem DC (g:Good n h):Good n (sv h):=by
 unfold sv;cases fb h with
 |false=>exact g
 |true=>
  have key:∀k,Good n (eQ jg k h):=by intro k;induction k with|zero=>exact g|succ k ih=>show Good n (jg k (eQ jg k h));generalize eQ jg k h=s at ih⊢;unfold jg;cases hv:s.2.2.2.2.2.1[k]? with|none=>exact ih|some v=>exact⟨ih.mem,ih.maps,ih.tx,ih.Hk,by have:=ih.lens;unfold po at this⊢;rw[aD];exact this,ih.Ke,ih.rx,ih.pool,tf ih.vec (QA (ih.vec v (aQ hv))),ih.BA⟩
  exact key _
theorem adr (g:Good n h)(p:aM)(c z:Int):Good n (AE h p c z).1:=by unfold AE;cases fb h with|false=>exact g|true=>have k:=ae0 g.tx g.mem h.2.1 0 p c z;exact⟨k.1,g.maps,k.2,g.Hk,g.lens,g.Ke,g.rx,g.pool,g.vec,g.BA⟩
theorem yB (g:Good n h):Good n (dv h):=by unfold dv;cases fb h with|false=>exact g|true=>have r:=GC h.2.1 h.1 0 17 [] 0 0 h.2.2.1.1 g.tx.ring;exact⟨g.mem,g.maps,Yq (aku g.tx r.1 r.2) _,g.Hk,g.lens,g.Ke,g.rx,g.pool,g.vec,g.BA⟩
theorem FC {x:Int}(h:0<=x/\x<=n)(hn:n<=800000000000:=by omega):0<=ar (x+1)/\ar (x+1)<=n+1:=by rw[al];omega
theorem Em (hn:n<=800000000000)(g:Good n h){c:Int}(ha:0<=a/\a<=n+1)(hb:0<=b/\b<=n+1)(hc:0<=c/\c<=n+1)(hd:0<=d/\d<=n+1):Good (n+1) (oR h a b c d):=by have k:=g.mono (show n<=n+1 by omega);refine⟨k.mem,k.maps,k.tx,k.Hk,k.lens,k.Ke,k.rx,k.pool,k.vec,λx hx=>?_⟩;have h1:=FC (g.BA _ (List.mem_cons_self ..)) hn;simp only[iD,oR,cD,List.not_mem_nil,or_false]at hx;rcases hx with rfl|rfl|rfl|rfl|rfl;exact h1;exact ha;exact hb;exact hc;exact hd
theorem I7 (hn:n<=700000000000)(g:Good n h)(x:Bytes):Good (n+641) (gV h x):=by
 have c1:=g.BA h.2.2.2.2.2.2.2.2.2.2.2.2.2.2.2.1 (by simp[iD]);have c2:=g.BA h.2.2.2.2.2.2.2.2.2.2.2.2.2.2.2.2.1 (by simp[iD]);have c3:=g.BA h.2.2.2.2.2.2.2.2.2.2.2.2.2.2.2.2.2.1 (by simp[iD]);have c4:=g.BA h.2.2.2.2.2.2.2.2.2.2.2.2.2.2.2.2.2.2 (by simp[iD]);have u:∀{y:Int},0<=y/\y<=n->0<=y/\y<=n+1:=λhy=>⟨hy.1,by omega⟩
 unfold gV;cases fb h;exact g.mono;cases (eO x).2 !=0;case true=>exact(Em (by omega) g (FC c1) (u c2) (u c3) (u c4)).mono
 cases !kK h.2.2.2.2.2.2.2.1 (eO x).1;case true=>exact(Em (by omega) g (u c1) (FC c2) (u c3) (u c4)).mono
 cases iS h.2.2.2.2.2.2.2.2.1 (h.2.2.2.1.length:Int) (eO x).1== -1;case true=>exact(Em (by omega) g (u c1) (u c2) (FC c3) (u c4)).mono
 simp only[ak,af];cases hq:h.2.2.2.1[(iS h.2.2.2.2.2.2.2.2.1 (h.2.2.2.1.length:Int) (eO x).1).toNat]? with|none=>exact g.mono|some q=>have a:=VD (by omega) (g.rx q (aQ hq)) g.mem h.2.1 0 h.2.2.2.2.2.2.2.2.1.2.2.1 (eO x).1 h.2.2.2.2.2.2.2.2.2.2.1;exact L4 ((Em (by omega) g (u c1) (u c2) (u c3) (FC c4)).mono) _ _ a.1 (a.2.mono)
theorem Wk (g:Good n h)(i:Nat)(c:Int):Good n (vH h i c).2:=by unfold vH;rcases h1:h.2.2.2.1[i]? with _|rx;exact g;rcases h2:h.2.2.2.2.1[i]? with _|pl;exact g;have k:=SQ (g.rx rx (aQ h1)) g.mem (g.pool pl (aQ h2)) h.2.1 0 h.2.2.2.2.2.2.2.2.2.1 c;refine⟨k.1,g.maps,g.tx,g.Hk,?_,?_,tf g.rx k.2.1,tf g.pool k.2.2,g.vec,g.BA⟩;have:=g.lens;unfold po at*;simp only[aD];exact this;show fu _ ((h.2.2.2.1.set i _).length:Int)=true;rw[aD];exact g.Ke
theorem FR (b:Int)(k:Nat){s:Int×Host}(g:Good n s.2):Good n (vJ b k s).2:=by unfold vJ;rcases h1:s.2.2.2.2.2.2.1[k]? with _|v;exact g;rcases h2:s.2.2.2.2.2.2.2.1[k]? with _|p;exact g;rcases h3:s.2.2.2.2.1[k]? with _|x;exact g;rcases h4:s.2.2.2.2.2.1[k]? with _|pl;exact g;have hv:=Yt (g.vec v (aQ h1));simp only;cases p||(re v).2 with|false=>refine⟨g.mem,g.maps,g.tx,g.Hk,?_,g.Ke,g.rx,g.pool,tf g.vec hv,g.BA⟩;have:=g.lens;unfold po at*;simp only[af,aD];exact this|true=>have e:=SQ (g.rx x (aQ h3)) g.mem (g.pool pl (aQ h4)) s.2.2.1 0 s.2.2.2.2.2.2.2.2.2.2.1 b;refine⟨e.1,g.maps,g.tx,g.Hk,?_,?_,tf g.rx e.2.1,tf g.pool e.2.2,tf g.vec ?_,g.BA⟩;have:=g.lens;unfold po at*;simp only[ah,aD];exact this;show fu _ ((s.2.2.2.2.1.set k _).length:Int)=true;rw[aD];exact g.Ke;cases decide ((gU s.2.2.1 s.2.1 0 x pl s.2.2.2.2.2.2.2.2.2.2.1 b).2.2.2.2<b)with|true=>exact abD hv|false=>exact hv
theorem OQ (b:Int)(g:Good n h):∀k,Good n (jO b k h).2
 |0=>g
 |k+1=>FR b k (OQ b g k)
theorem I8 (g:Good n h)(b:Int):Good n (iy h b).1:=by unfold iy;cases fb h&&dD b 1 1000 with|false=>exact g|true=>exact OQ b g _
theorem En (g:Good n h):∀k,Good n (lZ h k)
 |0=>g
 |k+1=>Wk (En g k) k 1000
theorem adq (g:Good n h)(l:dA):Good n (SY h l):=⟨g.mem,g.maps,g.tx,g.Hk,g.lens,g.Ke,g.rx,g.pool,g.vec,g.BA⟩
theorem Hu (g:Good n h):∀k,Good n (returned h k)
 |0=>En g _
 |k+1=>by show Good n (Lr h.2.2.1.2.2.1 k (returned h k));have:=Hu g k;unfold Lr;cases h.2.2.1.2.2.1[k]? with|none=>exact this|some x=>exact adq this _
theorem DW (ha:0<=a/\a<=130944:=by omega)(hb:1<=b/\b<=512:=by omega)(hn:0<=n/\n<=16:=by omega):gP a b n=((a,b,n,upto n.toNat),true)/\du (a,b,n,upto n.toNat)=true:=by have h1:du (a,b,n,[])=true:=DV.2 ⟨ha,hb,hn,by simp,List.nodup_nil⟩;refine⟨by unfold gP;rw[h1];rfl,DV.2 ⟨ha,hb,hn,?_,?_⟩⟩;intro x hx;simp only[upto,dx,cB]at hx;obtain⟨i,hi,rfl⟩:=hx;show 0<=Int.ofNat i/\Int.ofNat i<=n-1;simp only[Int.ofNat_eq_natCast];omega;show(upto n.toNat).Nodup;unfold upto;rw[List.Nodup,List.pairwise_map];exact List.nodup_range.imp λh he=>h (Int.ofNat.inj he)
theorem aiX (c:Int)(hc:0<=c/\c<=65535):Fy (tc.1,tc.2.1,tc.2.2.1,c):=by
 have p:=DW (a:=256) (b:=128) (n:=8);refine⟨Gk,hc,λx hx=>(by cases hx),?_,by show(0:Int)<=16;omega⟩;show du (ix (gP 256 128 8).1 [])=true;rw[p.1];have e:ix (256,128,8,upto (8:Int).toNat) []=(256,128,8,upto (8:Int).toNat):=by simp[ix]
 show du (ix (256,128,8,upto (8:Int).toNat) [])=true;rw[e];exact p.2
theorem Ue (g:Good n h):Good n (jD h):=by have k:=Hu g h.2.2.1.2.2.1.length;exact⟨k.mem,k.maps,aiX _ k.tx.next,k.Hk,k.lens,k.Ke,k.rx,k.pool,k.vec,k.BA⟩
theorem abJ {i:Nat}(h:i<=8):0<=hY i/\hY i<=16000:=by unfold hY;omega
theorem SF (hm:cY m=true)(l:az aH){i:Nat}(hi:i<=8):cY (mh l m i).1=true/\dB (mh l m i).2.1=true/\du (mh l m i).2.2.1=true:=by have hb:=abJ hi;have p:=DW (a:=hY i+128) (b:=384) (n:=4);unfold mh;rw[p.1];exact RZ (Gc hm ..) (Gk) p.2 l 0
theorem XU {i:Nat}(hi:i<=8)(hr:dB r=true)(hd:0<=d/\d<=n):xQ n (r,(hY i+64,4,0),(hY i+64,4,0),((0,0,0,0,0,0,0,0,0,0,0,0,0,0,0,([]:Bytes)),0,0),false,d):=by
 have hb:=abJ hi;have hq:gD (hY i+64,4,0)=true:=by have hs:jA 4=true:=ig.2 (by omega);unfold gD;rw[ae,ae];exact⟨aS.2 (by omega),hs,by rw[yi hs];rfl⟩
 exact⟨hr,hq,hq,rfl,rfl,hd,λhf=>(by cases hf),λ_=>rfl⟩
theorem Wl (hn:n<=800000000000)(g:Good n h){i:Nat}(hi:i<=8):Good (n+320) (vI i h):=by
 have gm:=g.mono (show n<=n+320 by omega);unfold vI;rcases h1:h.2.2.2.1[i]? with _|x;exact gm;rcases h2:h.2.2.2.2.2.1[i]? with _|v;exact gm;have o:=SF g.mem h.2.1 hi;have hx:=g.rx x (aQ h1);have hd:0<=Fb x/\Fb x<=n+320:=by have d:=hx.drop;unfold Fb;cases hh:x.2.2.2.2.1 with|false=>simp only[af];omega|true=>have:=hx.held hh;rw[ah,al];omega
 refine⟨o.1,gm.maps,gm.tx,gm.Hk,?_,?_,tf gm.rx (XU hi o.2.1 hd),tf gm.pool o.2.2,tf gm.vec (afs (g.vec v (aQ h2))),gm.BA⟩;have:=g.lens;unfold po Gd at*;simp only[aD];exact this;show fu _ (((Gd h i (Fb x)).2.2.2.1).length:Int)=true;unfold Gd;simp only[aD];exact g.Ke
theorem Ht (hn:n<=700000000000)(g:Good n h):∀k:Nat,k<=8->Good (n+320*(k:Int)) (iY h k)
 |0,_=>g.mono
 |k+1,hk=>(Wl (by omega) (Ht hn g k (by omega)) (i:=k) (by omega)).mono
theorem OP (hn:n<=700000000000)(g:Good n h):Good (n+640) (rG h):=by have hl:=nM g.lens;unfold rG;cases fb h with|false=>exact g.mono|true=>exact(Ht hn (Ue g) _ (by omega)).mono (by have:=hl.1;omega)
def iq (k:Nat):Nat:=1280+1792*k
def ti (k c:Nat):E5:=(3,0,384,((iq k+128+384*c:Nat):Int),0,(c:Int))
theorem TC {c:Nat}(hk:k<=1)(hc:c<4):pV (ti k c)=true:=by unfold pV ti iq;simp only[ae,aS];omega
abbrev Dt (C:az Fw):gk:=C.map λc=>c.1.toNat
structure Fx (m:List Bytes) (k:Nat) (q:bt) (p:dy) (hd x:Nat) (P:List Nat) (C:List Fw) (F:List Nat):Prop where
 ring:q.1=fK (iq k) 4 hd P.length
 row:rL m (iq k) 4 hd (P.map λc=>iJ (ti k c))
 dev:q.2.1=xR (iq k+64) (x+C.length)
 RS:q.2.2.1=xR (iq k+64) x
 com:NL m (iq k+64) x C
 pool:p=(((iq k+128:Nat):Int),384,4,F.map λc:Nat=>(c:Int))
 perm:(Dt C++P++F).Perm [0,1,2,3]
 cok:∀c∈C,0<=c.1
theorem Fx.len (s:Fx m k q p hd x P C F):C.length+P.length+F.length=4:=by have:=s.perm.length_eq;simp[Dt]at this;omega
theorem Fx.lt (s:Fx m k q p hd x P C F){c:Nat}(h:c∈Dt C++P++F):c<4:=by have:=s.perm.mem_iff.1 h;simp at this;omega
theorem Fx.frame (s:Fx m k q p hd x P C F)(h:∀i,iq k<=i->i<iq k+128->mB m' i=mB m i):Fx m' k q p hd x P C F:=⟨s.ring,s.row.frame (Or.inl rfl) λi h1 h2=>h i h1 (by omega),s.dev,s.RS,s.com.frame λi h1 h2=>h i (by omega) (by omega),s.pool,s.perm,s.cok⟩
theorem Fx.held (s:Fx m k q p hd x P C F)(u:nr×Bool×Int):Fx m k (q.1,q.2.1,q.2.2.1,u) p hd x P C F:=⟨s.ring,s.row,s.dev,s.RS,s.com,s.pool,s.perm,s.cok⟩
theorem Ik {l:gk}(h:l.Perm [0,1,2,3]):l.Nodup:=h.nodup_iff.2 (by decide)
theorem acx {b:Nat}(hb:b<=130944)(h1:∀c∈F,c<4)(h2:F.Nodup):du ((b:Int),384,4,F.map λc:Nat=>(c:Int))=true:=by
 unfold du;simp only[ae,aS,aL,cB];refine⟨by omega,by decide,by decide,λi hi=>?_⟩;have hi:i<F.length:=by simpa using hi
 unfold Dz;rw[cO (by simpa using hi),List.getElem_map];have hl:=h1 _ (bF hi);simp only[ae,aS,aN];refine⟨by omega,?_⟩;rw[<-Bool.not_eq_true,List.contains_iff_mem,<-List.map_take];intro hm;obtain⟨y,hy,e⟩:=dx.1 hm;have e:y=F[i]:=by omega
 obtain⟨j,hj,ej⟩:=gA hy;rw[aY]at hj;rw[List.getElem_take]at ej;exact List.pairwise_iff_getElem.1 h2 j i (by omega) hi (by omega) (ej.trans e)
theorem Fx.XE (hk:k<=1)(s:Fx m k q p hd x P C F):du p=true:=by rw[s.pool];refine acx (by unfold iq;omega) (λc hc=>s.lt (by simp[hc])) ?_;have n:=Ik s.perm;exact(aO.1 n).2.1
theorem Wn {s v:Bytes}(hs:s.length=16)(hv:v.length<=12):0<=qG s v/\qG s v<=4294967295:=by have h:=I9 s v (8*v.length);unfold qG;rw[hs,dw];show 0<=((Fg s v (8*v.length):Nat):Int)/\((Fg s v (8*v.length):Nat):Int)<=4294967295;omega
theorem Td {k s:Bytes}{D:E5}(h:cL s=(D,true))(h3:D.1=3)(hl:¬D.2.2.1<((cV q.2.2.2.1.1).1.length:Int))(hp:(hZ l m d D.2.2.2.1 (cV q.2.2.2.1.1).1 true).2=true):gF l m d q k s=sS l (hZ l m d D.2.2.2.1 (cV q.2.2.2.1.1).1 true).1 d q.2.1 (D.2.2.2.2.2,((cV q.2.2.2.1.1).1.length:Int),q.2.2.2.1.2.1,q.2.2.2.1.2.2,qG k (ng (dP q.2.2.2.1.1))):=by unfold gF;rw[h];simp only[h3,au hl,hp,bne_self_eq_false,ak,bJ,af]
theorem abu (hm:fJ m)(hk:k<=1){c:Nat}(s:Fx m k q p hd x (c::P) C F)(hq:BK q=true)(hh:q.2.2.2.2.1=true)(key:Bytes)(AK:key.length=16): ∃y:Fw,y.1=(c:Int)/\(gF (bI 38) m 0 q key (iJ (ti k c))).2=(xR (iq k+64) (x+C.length+1),true)/\fJ (gF (bI 38) m 0 q key (iJ (ti k c))).1/\NL (gF (bI 38) m 0 q key (iJ (ti k c))).1 (iq k+64) x (C++[y])/\∀i,i<4864->(i<iq k+64\/iq k+1792<=i)->mB (gF (bI 38) m 0 q key (iJ (ti k c))).1 i=mB m i:=by
 have hc:c<4:=s.lt (by simp);have hl:=s.len;simp only[aV]at hl;have db:=yc (TC hk hc);have r:=(Gm _).1 hq;have hs:=r.held hh;have hi:=oT q.2.2.2.1.1;have hn:iq k=1280+1792*k:=rfl;have pf:=Cb hm (a:=iq k+128+384*c) (s:=(cV q.2.2.2.1.1).1) (w:=true) (by omega) (by omega) (λ_=>by omega);generalize hy:(((c:Int),((cV q.2.2.2.1.1).1.length:Int),q.2.2.2.1.2.1,q.2.2.2.1.2.2,qG key (ng (dP q.2.2.2.1.1))):Fw)=y;have ok:rD y=true:=by rw[<-hy];unfold rD;simp only[ae,aS];have hb:=Wn AK (R7 (dP q.2.2.2.1.1));omega
 have cm:=s.com.frame (m':=(hZ (bI 38) m 0 ((iq k+128+384*c:Nat):Int) (cV q.2.2.2.1.1).1 true).1) λi h1 h2=>by rw[pf.2.2 i (by omega),kz]
 have pc:=SR pf.2.1 (b:=iq k+64) (by omega) cm (by omega) ok;have eA:(ti k c).2.2.2.1=((iq k+128+384*c:Nat):Int):=rfl;have eL:(ti k c).2.2.1=384:=rfl;have eC:(ti k c).2.2.2.2.2=(c:Int):=rfl;have e:gF (bI 38) m 0 q key (iJ (ti k c))=sS (bI 38) (hZ (bI 38) m 0 ((iq k+128+384*c:Nat):Int) (cV q.2.2.2.1.1).1 true).1 0 (xR (iq k+64) (x+C.length)) y:=by rw[Td db.2 rfl (by rw[eL];omega) (by rw[eA];exact pf.1),eA,eC,s.dev,hy]
 rw[e];refine⟨y,by rw[<-hy],pc.1,pc.2.1,pc.2.2.1,λi hi ho=>?_⟩;rw[pc.2.2.2 i hi (by omega),pf.2.2 i hi,kz]
structure Tt (m:List Bytes) (k:Nat) (p:dy) (x:Nat) (C:List Fw) (F:List Nat) (h:Bool) (f:List Bytes×bt) (n:Nat):Prop where
 mem:fJ f.1
 st:∃hd P C',Fx f.1 k f.2 p hd x P C' F/\C'.length=C.length+n
 hold:f.2.2.2.2.2.1=h
 out:∀i,i<4864->(i<iq k\/iq k+1792<=i)->mB f.1 i=mB m i
theorem BS (hm:fJ m)(hk:k<=1)(s:Fx m k q p hd x P C F)(hq:BK q=true)(key:Bytes)(AK:key.length=16):∃n,n<=1/\Tt m k p x C F false (fX (bI 38) m 0 q key) n:=by
 have hn:iq k=1280+1792*k:=rfl;unfold fX;rw[hq,AK];cases hh:q.2.2.2.2.1 with
 |false=>exact⟨0,by omega,hm,⟨hd,P,C,s,rfl⟩,hh,λ_ _ _=>rfl⟩
 |true=>
  simp only[ak,cj,show(((16:Nat):Int) !=16)=false from rfl,af];cases P with
  |nil=>
   have t:=Tj (m:=m) (b:=iq k) (S:=4) (hd:=hd) (Or.inl rfl);have e:br (bI 38) m 0 q.1=([],q.1,false):=by rw[s.ring];exact t
   rw[e];exact⟨0,by omega,hm,⟨hd,[],C,s.held _,rfl⟩,rfl,λ_ _ _=>rfl⟩
  |cons c P=>
   have t:=D7 hm (b:=iq k) (S:=4) (Or.inl rfl) (by omega) (show rL m (iq k) 4 hd (iJ (ti k c)::P.map λc=>iJ (ti k c)) from s.row);have e:br (bI 38) m 0 q.1=(iJ (ti k c),fK (iq k) 4 (hd+1) P.length,true):=by rw[s.ring];have:=t.1;rw[cz]at this;exact this
   obtain⟨y,y1,y2,y3,y4,y5⟩:=abu hm hk s hq hh key AK;rw[e,y2];simp only[cK,ah];refine⟨1,by omega,y3,⟨hd+1,P,C++[y],⟨rfl,?_,by simp;rfl,s.RS,y4,s.pool,?_,λz hz=>?_⟩,by simp⟩,rfl,λi hi ho=>y5 i hi (by omega)⟩;exact t.2.frame (Or.inl rfl) λi h1 h2=>y5 i (by omega) (by omega);refine List.Perm.trans ?_ s.perm;have ey:y.1.toNat=c:=by rw[y1];simp
   simp only[Dt,cu,cS,List.map_nil,ey,aE,ik,bX];exact List.Perm.refl _;rcases ay.1 hz with g|g;exact s.cok z g;rw[bA.1 g,y1];omega
theorem LN (hm:fJ m)(hk:k<=1)(s:Fx m k q p hd x P C F)(hN:N<=500000000000)(hq:xQ N q)(key:Bytes)(AK:key.length=16)(w:aM)(c:Bool):∃n h,n<=2/\Tt m k p x C F h (je (bI 38) m 0 q key w c) n:=by have Nx:BK q=true:=(Gm _).2 (hq.mono);unfold je;rw[Nx,AK];cases hw:gb w with|false=>exact⟨0,q.2.2.2.2.1,by omega,hm,⟨hd,P,C,s,rfl⟩,rfl,λ_ _ _=>rfl⟩|true=>simp only[ak,cj,show(((16:Nat):Int) !=16)=false from rfl,af];cases c&&(q.2.2.2.2.1&&Fs q.2.2.2.1 w)with|true=>exact⟨0,q.2.2.2.2.1,by omega,hm,⟨hd,P,C,s.held _,rfl⟩,rfl,λ_ _ _=>rfl⟩|false=>simp only[af];obtain⟨n,hn,fl⟩:=BS hm hk s Nx key AK;obtain⟨MZ,P2,C2,s2,l2⟩:=fl.st;have hd3:Fx (fX (bI 38) m 0 q key).1 k (DG (fX (bI 38) m 0 q key).2 (jc w)) p MZ x P2 C2 F:=s2.held _;cases c with|true=>exact⟨n,true,by omega,fl.mem,⟨MZ,P2,C2,hd3,l2⟩,rfl,fl.out⟩|false=>have so:=D5 hw;have hq2:BK (DG (fX (bI 38) m 0 q key).2 (jc w))=true:=(Gm _).2 ((Nv (BT (by omega) hq hm.ok (bI 38) 0 key).2 so.1 so.2.1 so.2.2).mono);obtain⟨n3,hn3,f3⟩:=BS fl.mem hk hd3 hq2 key AK;obtain⟨hd4,P4,C4,s4,l4⟩:=f3.st;exact⟨n+n3,false,by omega,f3.mem,⟨hd4,P4,C4,s4,by omega⟩,f3.hold,λi hi ho=>(f3.out i hi ho).trans (fl.out i hi ho)⟩
theorem abO (hk:k<=1)(hp:du (((iq k+128:Nat):Int),384,4,F.map λc:Nat=>(c:Int))=true){c:Nat}(hc:c<4):oy (((iq k+128:Nat):Int),384,4,F.map λc:Nat=>(c:Int)) (c:Int)=((iq k+128+384*c:Nat):Int):=by unfold oy;rw[hp,aS.2 ⟨by omega,by show(c:Int)<=4-1;omega⟩];show((iq k+128:Nat):Int)+(c:Int)*384=_;omega
theorem Ou (hk:k<=1){hd:Nat}{G:gk}(hp:du (((iq k+128:Nat):Int),384,4,G.map λc:Nat=>(c:Int))=true):∀(F:gk)(m:cg)(P:gk),fJ m->rL m (iq k) 4 hd (P.map λc=>iJ (ti k c))->P.length+F.length<=4->(∀c∈F,c<4)->
 (kO (bI 38) 0 (((iq k+128:Nat):Int),384,4,G.map λc:Nat=>(c:Int)) (F.map λc:Nat=>(c:Int)) m (fK (iq k) 4 hd P.length)).1=F.length/\
 (kO (bI 38) 0 (((iq k+128:Nat):Int),384,4,G.map λc:Nat=>(c:Int)) (F.map λc:Nat=>(c:Int)) m (fK (iq k) 4 hd P.length)).2.2=fK (iq k) 4 hd (P++F).length/\
 fJ (kO (bI 38) 0 (((iq k+128:Nat):Int),384,4,G.map λc:Nat=>(c:Int)) (F.map λc:Nat=>(c:Int)) m (fK (iq k) 4 hd P.length)).2.1/\
 rL (kO (bI 38) 0 (((iq k+128:Nat):Int),384,4,G.map λc:Nat=>(c:Int)) (F.map λc:Nat=>(c:Int)) m (fK (iq k) 4 hd P.length)).2.1 (iq k) 4 hd ((P++F).map λc=>iJ (ti k c))/\
 ∀i,i<4864->(i<iq k\/iq k+64<=i)->mB (kO (bI 38) 0 (((iq k+128:Nat):Int),384,4,G.map λc:Nat=>(c:Int)) (F.map λc:Nat=>(c:Int)) m (fK (iq k) 4 hd P.length)).2.1 i=mB m i
 |[],m,P,hm,r,_,_=>by rw[bB];exact⟨rfl,rfl,hm,r,λ_ _ _=>rfl⟩
 |c::F,m,P,hm,r,hl,hF=>by
  have hn:iq k=1280+1792*k:=rfl;have hc:c<4:=hF c (by simp);simp only[aV]at hl;have ed:fP (((iq k+128:Nat):Int),384,4,G.map λc:Nat=>(c:Int)) (c:Int)=iJ (ti k c):=by unfold fP;rw[abO hk hp hc];rfl
  have pr:=XK hm (b:=iq k) (S:=4) (hd:=hd) (Or.inl rfl) (by omega) r (by rw[cz];omega) (yc (TC hk hc)).1;rw[cz]at pr;rw[cS,kO,ed,pr.1];simp only[ah];have e1:P.length+1=(P++[c]).length:=by simp
  have r2:rL (cW (bI 38) m 0 (fK (iq k) 4 hd P.length) (iJ (ti k c))).1 (iq k) 4 hd ((P++[c]).map λc=>iJ (ti k c)):=by rw[cu];exact pr.2.2.1
  have ih:=Ou hk hp F _ (P++[c]) pr.2.1 r2 (by simp;omega) λy hy=>hF y (by simp[hy]);rw[e1];rw[aE,gI]at ih;exact⟨by rw[ih.1];simp,ih.2.1,ih.2.2.1,ih.2.2.2.1,λi hi ho=>(ih.2.2.2.2 i hi ho).trans (pr.2.2.2 i hi (by omega))⟩
theorem RY (hm:fJ m)(hk:k<=1)(s:Fx m k q p hd x P C F): fJ (pW (bI 38) m 0 q.1 p).1/\Fx (pW (bI 38) m 0 q.1 p).1 k ((pW (bI 38) m 0 q.1 p).2.1,q.2) (pW (bI 38) m 0 q.1 p).2.2.1 hd x (P++F) C []/\∀i,i<4864->(i<iq k\/iq k+64<=i)->mB (pW (bI 38) m 0 q.1 p).1 i=mB m i:=by
 have hn:iq k=1280+1792*k:=rfl;have hp:=s.XE hk;have hl:=s.len;rw[s.pool]at hp;have fl:=Ou hk (hd:=hd) hp F m P hm s.row (by omega) λc hc=>s.lt (by simp[hc]);have vo:=qP (b:=iq k) (hd:=hd) (n:=P.length) (S:=4) (Or.inl rfl);have e:pW (bI 38) m 0 q.1 p=((kO (bI 38) 0 (((iq k+128:Nat):Int),384,4,F.map λc:Nat=>(c:Int)) (F.map λc:Nat=>(c:Int)) m (fK (iq k) 4 hd P.length)).2.1,fK (iq k) 4 hd (P++F).length,(((iq k+128:Nat):Int),384,4,[]),((F.length:Nat):Int)):=by unfold pW;rw[s.pool,s.ring,vo.1,hp];simp only[ak,bJ,af,fl.1,fl.2.1];rw[cx (by simp)]
 rw[e];refine⟨fl.2.2.1,⟨rfl,fl.2.2.2.1,s.dev,s.RS,s.com.frame λi h1 h2=>fl.2.2.2.2 i (by omega) (by omega),rfl,?_,s.cok⟩,fl.2.2.2.2⟩;have:=s.perm;rw[aE]at this;rw[bB];exact this
theorem adp {c:Nat}(hp:du (((iq k+128:Nat):Int),384,4,F.map λc:Nat=>(c:Int))=true)(hp2:du (((iq k+128:Nat):Int),384,4,(F++[c]).map λc:Nat=>(c:Int))=true):(Ad (((iq k+128:Nat):Int),384,4,F.map λc:Nat=>(c:Int)) [(c:Int)]).1=(((iq k+128:Nat):Int),384,4,(F++[c]).map λc:Nat=>(c:Int)):=by
 have e:ix (((iq k+128:Nat):Int),384,4,F.map λc:Nat=>(c:Int)) [(c:Int)]=(((iq k+128:Nat):Int),384,4,(F++[c]).map λc:Nat=>(c:Int)):=by unfold ix;rw[cu];rfl
 unfold Ad xX;rw[e,hp,hp2];rfl
theorem PV (hm:fJ m)(hk:k<=1){c:Fw}(r:Fx m k s.2.1 s.2.2 hd x P (c::C) F):(lM (bI 38) m 0 s.2.1.2.2.1).2.2=true/\Fx m k (vX (bI 38) m 0 s).2.1 (vX (bI 38) m 0 s).2.2 hd (x+1) P C (F++[c.1.toNat])/\(vX (bI 38) m 0 s).2.1.2.2.2=s.2.1.2.2.2:=by
 have hn:iq k=1280+1792*k:=rfl;have nx:=La hm (b:=iq k+64) (by omega) r.com;have en:lM (bI 38) m 0 s.2.1.2.2.1=(c,xR (iq k+64) (x+1),true):=by rw[r.RS];exact nx.1
 have hc:((c.1.toNat:Nat):Int)=c.1:=Int.toNat_of_nonneg (r.cok c (by simp));have pm:(Dt C++P++(F++[c.1.toNat])).Perm [0,1,2,3]:=by
  refine List.Perm.trans ?_ r.perm;have:Dt C++P++(F++[c.1.toNat])=(Dt C++P++F)++[c.1.toNat]:=by simp[aE]
  rw[this];exact List.perm_append_comm
 have nd:=Ik pm;have hp:=r.XE hk;rw[r.pool]at hp;have hp2:=acx (b:=iq k+128) (by omega) (F:=F++[c.1.toNat]) (λy hy=>by have:=pm.mem_iff.1 (show y∈Dt C++P++(F++[c.1.toNat]) from ay.2 (Or.inr hy));simp at this;omega) (aO.1 nd).2.1;have eg:(Ad s.2.2 [c.1]).1=(((iq k+128:Nat):Int),384,4,(F++[c.1.toNat]).map λc:Nat=>(c:Int)):=by rw[r.pool,<-hc];have:=adp (k:=k) (c:=c.1.toNat) hp hp2;rw[hc]at this⊢;exact this
 refine⟨by rw[en],?_,rfl⟩;unfold vX;rw[en];simp only;refine⟨r.ring,r.row,?_,rfl,nx.2,eg,pm,λy hy=>r.cok y (by simp[hy])⟩;rw[show x+1+C.length=x+(c::C).length by simp;omega];exact r.dev
theorem Io (hm:fJ m)(hk:k<=1):∀(n:Nat)(s:az Stream×bt×dy)(x:Nat)(C:az Fw)(F:gk),Fx m k s.2.1 s.2.2 hd x P C F->
 (jf (bI 38) m 0 n s).1=min n C.length/\(jf (bI 38) m 0 n s).2.2.1.2.2.2=s.2.1.2.2.2/\∃F',Fx m k (jf (bI 38) m 0 n s).2.2.1 (jf (bI 38) m 0 n s).2.2.2 hd (x+min n C.length) P (C.drop n) F'
 |0,s,x,C,F,r=>⟨by rw[Nat.zero_min];rfl,rfl,F,by rw[Nat.zero_min];exact r⟩
 |n+1,s,x,[],F,r=>by
  have hn:iq k=1280+1792*k:=rfl;have nx:=Lb hm (b:=iq k+64) (by omega) r.com;have en:(lM (bI 38) m 0 s.2.1.2.2.1).2.2=false:=by rw[r.RS,nx]
  rw[jf,en];exact⟨by simp,rfl,F,r⟩
 |n+1,s,x,c::C,F,r=>by have ps:=PV hm hk r;have ih:=Io hm hk n (vX (bI 38) m 0 s) (x+1) C _ ps.2.1;rw[jf,ps.1];simp only[ak,af];obtain⟨F',hf⟩:=ih.2.2;refine⟨by rw[ih.1];simp only[aV];omega,ih.2.1.trans ps.2.2,F',?_⟩;rw[show x+min (n+1) (c::C).length=x+1+min n C.length by simp only[aV];omega];exact hf
theorem Ll (hm:fJ m)(hk:k<=1)(s:Fx m k q p hd x P C F)(hq:BK q=true)(st:az Stream){b:Nat}(hb:b<=1000:=by omega): fJ (gU (bI 38) m 0 q p st (b:Int)).1/\(∃x' P',Fx (gU (bI 38) m 0 q p st (b:Int)).1 k (gU (bI 38) m 0 q p st (b:Int)).2.1 (gU (bI 38) m 0 q p st (b:Int)).2.2.1 hd x' P' (C.drop b) [])/\(gU (bI 38) m 0 q p st (b:Int)).2.2.2.2=((min b C.length:Nat):Int)/\(gU (bI 38) m 0 q p st (b:Int)).2.1.2.2.2.2.1=q.2.2.2.2.1/\∀i,i<4864->(i<iq k\/iq k+64<=i)->mB (gU (bI 38) m 0 q p st (b:Int)).1 i=mB m i:=by have hp:=s.XE hk;have pl:=Io hm hk b (st,q,p) x C F s;obtain⟨l1,l2,F',sf⟩:=pl;have ff:=RY hm hk sf;unfold gU;rw[hq,hp,aS.2 ⟨by omega,by omega⟩];simp only[ak,bJ,af,ax];exact⟨ff.1,⟨_,_,ff.2.1⟩,by rw[l1],by rw[l2],ff.2.2⟩
theorem NR (k:Nat):hY k=((iq k:Nat):Int):=by unfold hY iq;omega
theorem afv (n j:Nat):(ug n).getD j 0=0:=by unfold ug aR;rw[bc,List.map_replicate,eK];split<;>rfl
theorem ai3 {a:Nat}(h:∀j,j<16->mB m (a+j)=0):(tn (uN m a 16)).2.1=0:=by
 have e:uN m a 16=List.replicate 16 0:=by unfold uN;refine List.ext_getElem (by simp) λj g1 g2=>?_;simp only[List.getElem_map,List.getElem_range,List.getElem_replicate];exact h j (by simpa using g1)
 rw[e];decide
theorem Ld (hm:fJ m)(hk:k<=1)(u:nr×Bool×Int):fJ (mh (bI 38) m k).1/\(∃P,Fx (mh (bI 38) m k).1 k ((mh (bI 38) m k).2.1,(hY k+64,4,0),(hY k+64,4,0),u) (mh (bI 38) m k).2.2.1 0 0 P [] [])/\∀i,i<4864->(i<iq k\/iq k+1792<=i)->mB (mh (bI 38) m k).1 i=mB m i:=by
 have hn:iq k=1280+1792*k:=rfl;have pf:=Cb hm (a:=iq k) (s:=ug 128) (w:=false) (by rw[wi];omega) (by rw[wi];omega) (by simp);rw[wi]at pf;have np:=(DW (a:=hY k+128) (b:=384) (n:=4) (by rw[NR];omega)).1;have ep:(gP (hY k+128) 384 4).1=(((iq k+128:Nat):Int),384,4,[0,1,2,3].map λc:Nat=>(c:Int)):=by rw[np,NR];rfl
 have er:((hY k,4,0,0):na)=fK (iq k) 4 0 0:=by rw[NR];rfl
 have ec:((hY k+64,4,0):MT)=xR (iq k+64) 0:=by rw[NR];rfl
 have s:Fx (hZ (bI 38) m 0 ((iq k:Nat):Int) (ug 128) false).1 k (fK (iq k) 4 0 0,xR (iq k+64) 0,xR (iq k+64) 0,u) (((iq k+128:Nat):Int),384,4,[0,1,2,3].map λc:Nat=>(c:Int)) 0 0 [] [] [0,1,2,3]:=by refine⟨rfl,⟨by simp,λj hj=>by simp at hj⟩,rfl,rfl,⟨by simp,λj hj=>by simp at hj,λj _ hj=>?_⟩,rfl,List.Perm.refl _,λc hc=>by cases hc⟩;rw[ai3 λi hi=>?_];unfold phN;rw[zip];decide;rw[pf.2.2 _ (by omega),zip];exact afv ..
 have f:=RY pf.2.1 hk s;unfold mh;rw[ep,er,ec,NR];refine⟨f.1,⟨_,f.2.1⟩,λi hi ho=>?_⟩;rw[f.2.2 i hi (by omega),pf.2.2 i hi,kz]
def Vv (c:cg):Prop:=∃Ft last,c=Ft++[last]/\(∀e∈Ft,(cL e).2=true/\Hj (cL e).1=false)/\(cL last).2=true/\Hj (cL last).1=true
structure TxS (m:List Bytes) (t:dN) (hd:Nat) (L:List (List Bytes)):Prop where
 ring:t.1=fK 0 16 hd L.flatten.length
 row:rL m 0 16 hd L.flatten
 BA:L.length=t.2.2.1.length
 ch:∀c∈L,Vv c
 pool:t.2.1.1=256/\t.2.1.2.1=128/\t.2.1.2.2.1=8
theorem TxS.frame (s:TxS m t hd L)(h:∀i,i<256->mB m' i=mB m i):TxS m' t hd L:=⟨s.ring,s.row.frame (Or.inr rfl) λi _ h2=>h i (by omega),s.BA,s.ch,s.pool⟩
theorem N4 (hm:fJ m):∀(Ft:cg)(last:Bytes)(rest:cg)(hd n:Nat)(acc:az E5),rL m 0 16 hd (Ft++last::rest)->Ft.length+1<=n->(∀e∈Ft,(cL e).2=true/\Hj (cL e).1=false)->(cL last).2=true->Hj (cL last).1=true->
 (sE (bI 38) m 0 n acc (fK 0 16 hd (Ft.length+1+rest.length))).2=(fK 0 16 (hd+(Ft.length+1)) rest.length,true)/\rL m 0 16 (hd+(Ft.length+1)) rest
 |[],last,rest,hd,0,acc,r,hn,_,h1,h2=>by simp at hn
 |[],last,rest,hd,n+1,acc,r,hn,_,h1,h2=>by have t:=D7 hm (b:=0) (S:=16) (Or.inr rfl) (by omega) r;rw[show([]:cg).length+1+rest.length=rest.length+1 by simp;omega,sE,t.1,h1,h2];exact⟨rfl,t.2⟩
 |e::Ft,last,rest,hd,0,acc,r,hn,_,h1,h2=>by simp at hn
 |e::Ft,last,rest,hd,n+1,acc,r,hn,he,h1,h2=>by
  have t:=D7 hm (b:=0) (S:=16) (Or.inr rfl) (by omega) (show rL m 0 16 hd (e::(Ft++last::rest)) from r);have hl:(Ft++last::rest).length=Ft.length+1+rest.length:=by simp;omega
  rw[hl]at t;have g:=he e (by simp);simp only[aV]at hn;rw[show(e::Ft).length+1+rest.length=Ft.length+1+rest.length+1 by simp;omega,sE,t.1,g.1,g.2];simp only[ak,bJ,af];have ih:=N4 hm Ft last rest (hd+1) n (acc++[(cL e).1]) t.2 (by omega) (λy hy=>he y (by simp[hy])) h1 h2;rw[show hd+((e::Ft).length+1)=hd+1+(Ft.length+1) by simp;omega];exact ih
theorem Xw (hm:fJ m){c:cg}(hc:Vv c)(r:rL m 0 16 hd (c++L.flatten)):((iA (bI 38) m 0 (fK 0 16 hd (c++L.flatten).length)).1=fK 0 16 (hd+c.length) L.flatten.length/\rL m 0 16 (hd+c.length) L.flatten)/\((iA (bI 38) m 0 (fK 0 16 hd (c++L.flatten).length)).2.2=1\/(iA (bI 38) m 0 (fK 0 16 hd (c++L.flatten).length)).2.2=2):=by
 obtain⟨Ft,last,rfl,h1,h2,h3⟩:=hc;have hl:(Ft++[last]++L.flatten).length=Ft.length+1+L.flatten.length:=by simp;omega
 have el:(Ft++[last]).length=Ft.length+1:=by simp
 have er:Ft++[last]++L.flatten=Ft++last::L.flatten:=by simp
 have Uf:=r.len;rw[hl]at Uf⊢;rw[er]at r;have v:=qP (b:=0) (S:=16) (hd:=hd) (Or.inr rfl) (by omega) Uf;have cf:=N4 hm Ft last L.flatten hd (Ft.length+1+L.flatten.length) [] r (by omega) h1 h2 h3;have tk:(dh (bI 38) m 0 (fK 0 16 hd (Ft.length+1+L.flatten.length))).2=(fK 0 16 (hd+(Ft.length+1)) L.flatten.length,true):=by unfold dh;rw[v.1,v.2,show(((Ft.length+1+L.flatten.length:Nat):Int)==0)=false from by rw[cq];omega,ax];exact cf.1
 rw[el];unfold iA;rw[v.1,v.2,show(((Ft.length+1+L.flatten.length:Nat):Int)==0)=false from by rw[cq];omega,tk];simp only[ak,cj,af];cases !(fT (dh (bI 38) m 0 (fK 0 16 hd (Ft.length+1+L.flatten.length))).1).2.2.2 with|true=>exact⟨⟨rfl,cf.2⟩,Or.inr rfl⟩|false=>simp only[af];cases !(lU (bI 38) m 0 (fT (dh (bI 38) m 0 (fK 0 16 hd (Ft.length+1+L.flatten.length))).1).1).2||(!(xW (lU (bI 38) m 0 (fT (dh (bI 38) m 0 (fK 0 16 hd (Ft.length+1+L.flatten.length))).1).1).1).2||((ka (xW (lU (bI 38) m 0 (fT (dh (bI 38) m 0 (fK 0 16 hd (Ft.length+1+L.flatten.length))).1).1).1).1).2 !=0))with|true=>exact⟨⟨rfl,cf.2⟩,Or.inr rfl⟩|false=>exact⟨⟨rfl,cf.2⟩,Or.inl rfl⟩
theorem Iw (hm:fJ m):∀(L:az cg)(hd n:Nat)(fr:cg)(dn bd:Nat),(∀c∈L,Vv c)->rL m 0 16 hd L.flatten->L.length<n->
 ∃(GU:Nat)(LY:cg)(a b:Nat),oo (bI 38) m 0 n fr dn bd (fK 0 16 hd L.flatten.length)=(fK 0 16 GU 0,LY,(a:Int),(b:Int))/\a+b=dn+bd+L.length
 |[],hd,0,fr,dn,bd,_,_,h=>by simp at h
 |[],hd,n+1,fr,dn,bd,_,_,_=>by
  have v:=qP (b:=0) (S:=16) (hd:=hd) (n:=0) (Or.inr rfl);have e:(iA (bI 38) m 0 (fK 0 16 hd 0)).2.2=0:=by unfold iA;rw[v.1,v.2];rfl
  refine⟨hd,fr,dn,bd,?_,by simp⟩;show oo (bI 38) m 0 (n+1) fr dn bd (fK 0 16 hd 0)=_;rw[oo,e];rfl
 |c::L,hd,0,fr,dn,bd,_,_,h=>by simp at h
 |c::L,hd,n+1,fr,dn,bd,hc,r,h=>by have hf:(c::L).flatten=c++L.flatten:=List.flatten_cons;rw[hf]at r⊢;simp only[aV]at h;have nx:=Xw hm (hc c (by simp)) r;rw[oo,nx.1.1];rcases nx.2 with e|e;obtain⟨GU,LY,a,b,g1,g2⟩:=Iw hm L (hd+c.length) n (fr++(iA (bI 38) m 0 (fK 0 16 hd (c++L.flatten).length)).2.1) (dn+1) bd (λy hy=>hc y (by simp[hy])) nx.1.2 (by omega);rw[e];exact⟨GU,LY,a,b,g1,by simp only[aV];omega⟩;obtain⟨GU,LY,a,b,g1,g2⟩:=Iw hm L (hd+c.length) n (fr++(iA (bI 38) m 0 (fK 0 16 hd (c++L.flatten).length)).2.1) dn (bd+1) (λy hy=>hc y (by simp[hy])) nx.1.2 (by omega);rw[e];exact⟨GU,LY,a,b,g1,by simp only[aV];omega⟩
theorem ab6:∀(L:az cg),(∀c∈L,Vv c)->L.length<=L.flatten.length
 |[],_=>aX _
 |c::L,h=>by have:=ab6 L λy hy=>h y (by simp[hy]);obtain⟨Ft,last,e,_⟩:=h c (by simp);rw[List.flatten_cons,aj,e];simp only[aV,aj,dg];omega
theorem L2:∀(l:az pS)(p:dy),(ou p l).1=p.1/\(ou p l).2.1=p.2.1/\(ou p l).2.2.1=p.2.2.1
 |[],p=>⟨rfl,rfl,rfl⟩
 |x::l,p=>by
  have i:=L2 l (Ad p x.2.2).1;have g:(Ad p x.2.2).1.1=p.1/\(Ad p x.2.2).1.2.1=p.2.1/\(Ad p x.2.2).1.2.2.1=p.2.2.1:=by unfold Ad;cases xX p x.2.2<;>exact⟨rfl,rfl,rfl⟩
  exact⟨i.1.trans g.1,i.2.1.trans g.2.1,i.2.2.trans g.2.2⟩
theorem MP (g:Good n h)(hn:n<=1000000000000)(Z5:h.2.1=bI 38)(hm:fJ h.1)(s:TxS h.1 h.2.2.1 hd L):∃GU,(dv h).2.2.1=(fK 0 16 GU 0,ou h.2.2.1.2.1 h.2.2.1.2.2.1,[],h.2.2.1.2.2.2):=by
 have hl:=s.row.len;have Uf:=ab6 L s.ch;obtain⟨GU,fr,a,b,e1,e2⟩:=Iw hm L hd 17 [] 0 0 s.ch s.row (by omega);have e:ta h.2.1 h.1 0 h.2.2.1.1=(fK 0 16 GU 0,fr,(a:Int),(b:Int)):=by rw[Z5,s.ring];exact e1
 have hc:=s.BA;have v:=qP (b:=0) (S:=16) (hd:=GU) (n:=0) (Or.inr rfl);have eN:(if(h.2.2.1.2.2.1.length:Int)<ar ((a:Int)+(b:Int)) then(h.2.2.1.2.2.1.length:Int) else ar ((a:Int)+(b:Int)))=(h.2.2.1.2.2.1.length:Int):=by rw[al];split<;>omega
 have tx:=g.tx;have t2:Fy (fK 0 16 GU 0,h.2.2.1.2):=by refine⟨v.1,tx.next,λx hx=>?_,tx.pool,?_⟩;have:=tx.sent x hx;rw[s.ring]at this;exact this;have:=tx.BA;rw[s.ring]at this;exact this
 have ec:mu (fK 0 16 GU 0,h.2.2.1.2) (h.2.2.1.2.2.1.length:Int)=((fK 0 16 GU 0,ou h.2.2.1.2.1 h.2.2.1.2.2.1,[],h.2.2.1.2.2.2),h.2.2.1.2.2.1.map (·.1)):=by unfold mu;rw[abB.2 t2,aS.2 ⟨by omega,eV _⟩];simp only[cK,ah,ax,fg,gQ]
 refine⟨GU,?_⟩;unfold dv;rw[g.ok hn,e];simp only[ah,eN,ec]
theorem Ry (g:Good n h)(hn:n<=1000000000000)(Z5:h.2.1=bI 38)(hm:fJ h.1)(s:TxS h.1 h.2.2.1 hd L):(dv h).2.2.1.2.2.1=[]/\∃GU,TxS h.1 (dv h).2.2.1 GU []:=by obtain⟨GU,et⟩:=MP g hn Z5 hm s;have gs:=L2 h.2.2.1.2.2.1 h.2.2.1.2.1;rw[et];exact⟨rfl,GU,rfl,⟨by simp,λj hj=>by simp at hj⟩,rfl,(λc hc=>by cases hc),gs.1.trans s.pool.1,gs.2.1.trans s.pool.2.1,gs.2.2.trans s.pool.2.2⟩
theorem Nm (hp:p.1=256/\p.2.1=128/\p.2.2.1=8)(hb:du p=true)(h:b∈p.2.2.2):∃a:Nat,oy p b=(a:Int)/\256<=a/\a+128<=1280:=by
 have hi:0<=b/\b<=7:=by unfold du at hb;simp only[ae,aL,cB]at hb;obtain⟨i,hi,e⟩:=gA h;have:=hb.2.2.2 i hi;unfold Dz at this;rw[cO hi,e,hp.2.2]at this;simp only[ae,aS]at this;omega
 refine⟨(256+b*128).toNat,?_,by omega,by omega⟩;unfold oy;rw[hb,hp.2.2,aS.2 ⟨hi.1,by omega⟩,hp.1,hp.2.1];show(256:Int)+b*128=_;omega
theorem H3 (hp:p.1=256/\p.2.1=128/\p.2.2.1=8)(hb:du p=true){z:Nat}(hz:z<=128):∀(q:dA)(s:Bytes)(m:cg)(a:az ij){x},(∀b∈q,b∈p.2.2.2)->fJ m->ud (bI 38) 0 p z q s m a=some x->fJ x.2/\∀i,i<4864->(i<256\/1280<=i)->mB x.2 i=mB m i
 |[],s,m,a,x,_,hm,h=>by cases h;exact⟨hm,λ_ _ _=>rfl⟩
 |b::q,s,m,a,x,hq,hm,h=>by
  obtain⟨A,e,a1,a2⟩:=Nm hp hb (hq b (by simp));have hl:(s.take z).length<=128:=by rw[aY];omega
  have pf:=Cb hm (a:=A) (s:=s.take z) (w:=false) (by omega) (by omega) (by simp);rw[ud,e,pf.1]at h;have ih:=H3 hp hb hz q _ _ _ (λy hy=>hq y (by simp[hy])) pf.2.1 h;exact⟨ih.1,λi hi ho=>by rw[ih.2 i hi ho,pf.2.2 i hi,kz]⟩
theorem Gg:∀(q:cg)(m:cg)(hd:Nat)(E:cg),fJ m->rL m 0 16 hd E->(∀s∈q,s.length=16)->E.length+q.length<=16->∃m',oK (bI 38) 0 q m (fK 0 16 hd E.length)=some (m',fK 0 16 hd (E++q).length)/\fJ m'/\rL m' 0 16 hd (E++q)/\∀i,i<4864->256<=i->mB m' i=mB m i
 |[],m,hd,E,hm,r,_,_=>⟨m,by rw[bB];rfl,hm,by rw[bB];exact r,λ_ _ _=>rfl⟩
 |s::q,m,hd,E,hm,r,hs,hl=>by
  simp only[aV]at hl;have p:=XK hm (b:=0) (S:=16) (hd:=hd) (Or.inr rfl) (by omega) r (by omega) (hs s (by simp));have e1:E.length+1=(E++[s]).length:=by simp
  obtain⟨m',g1,g2,g3,g4⟩:=Gg q _ hd (E++[s]) p.2.1 p.2.2.1 (λy hy=>hs y (by simp[hy])) (by simp;omega);rw[aE,gI]at g1 g3;refine⟨m',?_,g2,g3,λi hi ho=>(g4 i hi ho).trans (p.2.2.2 i hi (by omega))⟩;rw[oK,p.1];simp only[ah];rw[e1];exact g1
theorem agB {ps:az ij}{c:Int}(h:(jW ps z c).length=ps.length+1):jW ps z c=[(2,0,0,0,z,c)]++oS ps c ps.length/\([(2,0,0,0,z,c)]++oS ps c ps.length).all pV=true:=by unfold jW at h⊢;cases h1:((ps.length:Int)==0)||(!oJ ps|| !dD z 1 128)with|true=>rw[h1]at h;simp at h|false=>rw[h1]at h;simp only[af]at h⊢;cases h2:([(2,0,0,0,z,c)]++oS ps c ps.length).all pV with|true=>exact⟨rfl,rfl⟩|false=>rw[h2]at h;simp at h
theorem ab0 (f l a s c:Int)(hf:f=0\/f=1):Hj (1,f,l,a,s,c)=(f==1):=by rcases hf with rfl|rfl;unfold Hj;simp only[fN,ah];decide;unfold Hj;simp only[fN,ah];decide
theorem RO (ps:az ij)(c:Int):∀i,i<ps.length->∀d∈oS ps c i,Hj d=false
 |0,_,d,hd=>by cases hd
 |i+1,hi,d,hd=>by rw[oS]at hd;rcases ay.1 hd with g|g;exact RO ps c i (by omega) d g;rw[bA.1 g];unfold dsc;rw[kz,ab0 _ _ _ _ _ (Or.inl rfl)];rfl
theorem Oh {ps:az ij}{c:Int}(h:(jW ps z c).length=ps.length+1)(h0:0<ps.length:=by omega):Vv ((jW ps z c).map iJ)/\∀s∈(jW ps z c).map iJ,s.length=16:=by
 obtain⟨e,Cn⟩:=agB h;rw[e];rw[aL]at Cn;obtain⟨k,hk⟩:∃k,ps.length=k+1:=⟨ps.length-1,by omega⟩
 have ed:oS ps c ps.length=oS ps c k++[dsc ps.length c k (ps.getD k (0,0))]:=by rw[show oS ps c ps.length=oS ps c (k+1) from by rw[hk]];rfl
 rw[ed]at Cn⊢;refine⟨⟨([(2,0,0,0,z,c)]++oS ps c k).map iJ,iJ (dsc ps.length c k (ps.getD k (0,0))),?_,λs hs=>?_,?_,?_⟩,λs hs=>?_⟩;rw[<-aE,cu];rfl;obtain⟨d,hd,rfl⟩:=dx.1 hs;have MZ:d∈[(2,0,0,0,z,c)]++(oS ps c k++[dsc ps.length c k (ps.getD k (0,0))]):=by rw[<-aE];exact aU _ hd
 rw[(yc (Cn d MZ)).2];refine⟨rfl,?_⟩;rcases ay.1 hd with g|g;rw[bA.1 g];rfl;exact RO ps c k (by omega) d g;rw[(yc (Cn _ (by rw[<-aE];exact bm _ (bA.2 rfl)))).2];rw[(yc (Cn _ (by rw[<-aE];exact bm _ (bA.2 rfl)))).2];show Hj (1,(if k+1=ps.length then 1 else 0),_,_,0,c)=true;rw[aJ hk.symm,ab0 _ _ _ _ _ (Or.inr rfl)];rfl;obtain⟨d,hd,rfl⟩:=dx.1 hs;exact(yc (Cn d hd)).1
theorem aeZ (hm:fJ m)(s:TxS m t hd L)(ht:Fy t)(p:aM)(c z:Int):fJ (pC (bI 38) m 0 t p c z).1/\(∃L',TxS (pC (bI 38) m 0 t p c z).1 (pC (bI 38) m 0 t p c z).2.1 hd L')/\∀i,i<4864->1280<=i->mB (pC (bI 38) m 0 t p c z).1 i=mB m i:=by
 have PE:fJ m/\(∃L',TxS m t hd L')/\∀i,i<4864->1280<=i->mB m i=mB m i:=⟨hm,⟨L,s⟩,λ_ _ _=>rfl⟩
 have hb:=ht.free;unfold pC;cases hg:MQ t&&(cH p&&(dD z 1 t.2.1.2.1&&dD c 1 128));exact PE;simp only[ae,aS]at hg;simp only[ah];have tl:=Iv hg.2.1;have hz:z.toNat<=128:=by have:=hg.2.2.1.2;rw[s.pool.2.1]at this;omega
 have hk0:0<wj p z.toNat:=by unfold wj;refine Nat.div_pos ?_ (by omega);omega
 generalize hk:wj p z.toNat=k at hk0;cases hf:Ff t k;exact PE;simp only[ah];rcases hx:ud (bI 38) 0 t.2.1 z.toNat (kb t.2.1 (k:Int)).2.1 (kV p).1 m []with _|x;exact PE;simp only;unfold Ff at hf;simp only[ae,aN,cG]at hf;have hti:dD (k:Int) 0 (t.2.1.2.2.2.length:Int)=true:=by have:=hf.1;unfold kb at this;cases hq:du t.2.1&&dD (k:Int) 0 (t.2.1.2.2.2.length:Int)with|true=>rw[ae]at hq;exact hq.2|false=>rw[hq]at this;cases this
 have et:kb t.2.1 (k:Int)=((t.2.1.1,t.2.1.2.1,t.2.1.2.2.1,t.2.1.2.2.2.drop k),t.2.1.2.2.2.take k,true):=by unfold kb;rw[hb,hti];rfl
 rw[et]at hx;have hti:=aS.1 hti;have hlen:(t.2.1.2.2.2.take k).length=k:=by rw[aY];omega
 have fw:=H3 s.pool hb hz _ _ _ _ (λb iB=>List.mem_of_mem_take iB) hm hx;have fo:=Dx (bI 38) 0 t.2.1 z.toNat _ _ _ _ hx;have xl:x.1.length=k:=by rw[fo.2.1,hlen];simp
 have Uf:k<=16:=by omega
 have da:=Og (ps:=x.1) (z:=c) (c:=t.2.2.2) (by omega) (by omega) (λy hy=>by rcases fo.2.2 y hy with g|⟨⟨b,iB,e⟩,g2,g3⟩;cases g;·obtain⟨A,eA,a1,a2⟩:=Nm s.pool hb (List.mem_of_mem_take iB);rw[e,eA];omega) (aS.2 hg.2.2.2) (aS.2 ht.next);have dc:=Oh da;have r2:=s.row.frame (m':=x.2) (Or.inr rfl) λi _ h2=>fw.2 i (by omega) (by omega);have kB:=hf.2.2.1;have v:=qP (b:=0) (S:=16) (hd:=hd) (Or.inr rfl) (by omega) s.row.len;have efr:mJ t.1=((16-L.flatten.length:Nat):Int):=by have:=s.row.len;unfold mJ;rw[s.ring,v.1,v.2,ah];show ar ((16:Int)-(L.flatten.length:Int))=_;rw[al];omega
 rw[efr]at kB;obtain⟨m',g1,g2,g3,g4⟩:=Gg ((jW x.1 c t.2.2.2).map iJ) x.2 hd L.flatten fw.1 r2 dc.2 (by rw[cz,da];omega);have ep:qu (bI 38) x.2 0 t.1 ((jW x.1 c t.2.2.2).map iJ)=(m',fK 0 16 hd (L.flatten++(jW x.1 c t.2.2.2).map iJ).length,true):=by unfold qu;rw[s.ring,g1];rfl
 unfold J1;rw[ep,et];simp only[ah];have efl:L.flatten++(jW x.1 c t.2.2.2).map iJ=(L++[(jW x.1 c t.2.2.2).map iJ]).flatten:=by rw[eJ];simp
 rw[efl]at g3⊢;refine⟨g2,⟨L++[(jW x.1 c t.2.2.2).map iJ],rfl,g3,?_,λy hy=>?_,s.pool⟩,λi hi ho=>(g4 i hi (by omega)).trans (fw.2 i hi (by omega))⟩;show(L++[_]).length=(t.2.2.1++[_]).length;rw[aj,aj,s.BA];rfl;rcases ay.1 hy with g|g;exact s.ch y g;rw[bA.1 g];exact dc.1
def QI (A:az Fw->bt->Vector->Bool->Prop)(m:cg)(k:Nat)(q:bt)(p:dy)(v:Vector)(b:Bool):Prop:=
 ∃hd x P C F,Fx m k q p hd x P C F/\v.2.1<=3/\v.2.2.2.2.1=b/\(b=false->C≠[]->1<=v.2.2.1)/\A C q v b
theorem QI.frame {A:az Fw->bt->Vector->Bool->Prop}{b:Bool}(s:QI A m k q p v b)(h:∀i,iq k<=i->i<iq k+128->mB m' i=mB m i):QI A m' k q p v b:=by obtain⟨hd,x,P,C,F,s,t⟩:=s;exact⟨hd,x,P,C,F,s.frame h,t⟩
theorem QI.xU {A B:az Fw->bt->Vector->Bool->Prop}{b:Bool}(s:QI A m k q p v b)(h:∀C q v b,A C q v b->B C q v b):QI B m k q p v b:=by obtain⟨hd,x,P,C,F,s,t1,t2,t3,t4⟩:=s;exact⟨hd,x,P,C,F,s,t1,t2,t3,h _ _ _ _ t4⟩
def afC (A:az Fw->bt->Vector->Bool->Prop)(h:Host)(k:Nat):Prop:=∃q p v b,h.2.2.2.1[k]?=some q/\h.2.2.2.2.1[k]?=some p/\h.2.2.2.2.2.1[k]?=some v/\h.2.2.2.2.2.2.1[k]?=some b/\QI A h.1 k q p v b
structure Live (Q:Nat->List Fw->bt->Vector->Bool->Prop) (h:Host):Prop where
 maps:h.2.1=bI 38
 mem:fJ h.1
 tx:∃hd L,TxS h.1 h.2.2.1 hd L
 rx:∀k,k<h.2.2.2.1.length->afC (Q k) h k
abbrev zw:Nat->az Fw->bt->Vector->Bool->Prop:=λ_ _ _ _ _=>True
theorem Live.step {Q':Nat->az Fw->bt->Vector->Bool->Prop}(f:Live Q h)(hk:k<h.2.2.2.1.length)(h2:h.2.2.2.1.length<=2)(hm:fJ h'.1)(e1:h'.2.1=h.2.1)(e2:h'.2.2.1=h.2.2.1)(e3:h'.2.2.2.1.length=h.2.2.2.1.length)(hq:∀j,j≠k->h'.2.2.2.1[j]?=h.2.2.2.1[j]?/\h'.2.2.2.2.1[j]?=h.2.2.2.2.1[j]?/\h'.2.2.2.2.2.1[j]?=h.2.2.2.2.2.1[j]?/\h'.2.2.2.2.2.2.1[j]?=h.2.2.2.2.2.2.1[j]?)(out:∀i,i<4864->(i<iq k\/iq k+1792<=i)->mB h'.1 i=mB h.1 i)(hQ:∀j,j≠k->∀C q v b,Q j C q v b->Q' j C q v b)(hF:afC (Q' k) h' k):Live Q' h':=by have hn:iq k=1280+1792*k:=rfl;obtain⟨hd,L,s⟩:=f.tx;refine⟨e1.trans f.maps,hm,⟨hd,L,by rw[e2];exact s.frame λi hi=>out i (by omega) (by omega)⟩,λj hj=>?_⟩;by_cases M3:j=k;subst M3;exact hF;rw[e3]at hj;have hj2:iq j=1280+1792*j:=rfl;obtain⟨q,p,v,b,g1,g2,g3,g4,g5⟩:=f.rx j hj;have e:=hq j M3;exact⟨q,p,v,b,by rw[e.1];exact g1,by rw[e.2.1];exact g2,by rw[e.2.2.1];exact g3,by rw[e.2.2.2];exact g4,(g5.xU (hQ j M3)).frame λi h1 h2=>out i (by omega) (by omega)⟩
theorem Live.same (f:Live Q h)(hm:fJ h'.1)(e1:h'.2.1=h.2.1)(e3:h'.2.2.2.1=h.2.2.2.1)(e4:h'.2.2.2.2.1=h.2.2.2.2.1)(e5:h'.2.2.2.2.2.1=h.2.2.2.2.2.1)(e6:h'.2.2.2.2.2.2.1=h.2.2.2.2.2.2.1)(ht:∃hd L,TxS h'.1 h'.2.2.1 hd L)(out:∀i,i<4864->1280<=i->mB h'.1 i=mB h.1 i)(h2:h.2.2.2.1.length<=2):Live Q h':=by refine⟨e1.trans f.maps,hm,ht,λk hk=>?_⟩;rw[e3]at hk;have hn:iq k=1280+1792*k:=rfl;obtain⟨q,p,v,b,g1,g2,g3,g4,g5⟩:=f.rx k hk;exact⟨q,p,v,b,by rw[e3];exact g1,by rw[e4];exact g2,by rw[e5];exact g3,by rw[e6];exact g4,g5.frame λi h1 h2=>out i (by omega) (by omega)⟩
theorem AG (v:Vector):(uh v).1=v.1/\(uh v).2.1=v.2.1/\(uh v).2.2.1=v.2.2.1/\(uh v).2.2.2.1=v.2.2.2.1/\(uh v).2.2.2.2.1=v.2.2.2.2.1:=by unfold uh;cases Ei v&& !v.2.2.2.2.1<;>exact⟨rfl,rfl,rfl,rfl,rfl⟩
theorem ade (hv:dW v=true):(evV v).2.1=v.2.1/\(evV v).2.2.2.2.1=v.2.2.2.2.1/\1<=(evV v).2.2.1:=by have w:=(uc v).1 hv;have u:=abC w.2.2.1;have c:=AG (v.1,v.2.1,NJ v.2.2.1,v.2.2.2);unfold evV;rw[hv,ah];exact⟨c.2.1,c.2.2.2.2,by rw[c.2.2.1];show 1<=NJ v.2.2.1;omega⟩
def evN:Nat->Vector->Vector
 |0,v=>v
 |n+1,v=>evV (evN n v)
theorem agI (hv:dW v=true):∀n,dW (evN n v)=true/\(evN n v).2.1=v.2.1/\(evN n v).2.2.2.2.1=v.2.2.2.2.1/\(1<=n->1<=(evN n v).2.2.1)
 |0=>⟨hv,rfl,rfl,λh=>by omega⟩
 |n+1=>by have i:=agI hv n;have s:=ade i.1;exact⟨ai0 i.1,s.1.trans i.2.1,s.2.1.trans i.2.2.1,λ_=>s.2.2⟩
theorem Oo (hv:h.2.2.2.2.2.1[k]?=some v):∀n,ZP k n h=(h.1,h.2.1,h.2.2.1,h.2.2.2.1,h.2.2.2.2.1,h.2.2.2.2.2.1.set k (evN n v),h.2.2.2.2.2.2)
 |0=>by obtain⟨iz,e⟩:=aB.1 hv;show h=_;rw[evN,<-e,List.set_getElem_self]
 |n+1=>by obtain⟨iz,e⟩:=aB.1 hv;rw[ZP,Oo hv n];unfold evS;simp only[bq iz,List.set_set];rfl
theorem Xc (f:Live Q h)(h2:h.2.2.2.1.length<=2)(hk:k<h.2.2.2.1.length)(hq:h.2.2.2.1[k]?=some q)(hp:h.2.2.2.2.1[k]?=some p)(hv:h.2.2.2.2.2.1[k]?=some v){b:Bool}(hb:h.2.2.2.2.2.2.1[k]?=some b)(s:Fx h.1 k q p hd x P C F)(w3:v.2.1<=3)(wm:v.2.2.2.2.1=b)(wc:b=false->C≠[]->1<=v.2.2.1)(hvb:dW v=true){g:cg×bt}{H:Bool}{n:Nat}(hn:n<=4)(fl:Tt h.1 k p x C F H g n): Live (λj C q v b=>(j=k->q.2.2.2.2.1=H)/\(j≠k->Q j C q v b)) (uq h k q.2.1.2.2 g):=by
 obtain⟨GU,P',C',s',l'⟩:=fl.st;have hc4:=s.com.len;have ati:=s'.com.len;have ed:q.2.1.2.2=(((x+C.length)%8:Nat):Int):=by rw[s.dev];rfl
 have ed':g.2.2.1.2.2=(((x+C'.length)%8:Nat):Int)/\g.2.2.1.2.1=4:=by rw[s'.dev];exact⟨rfl,rfl⟩
 have ec:((g.2.2.1.2.2-q.2.1.2.2)%(2*g.2.2.1.2.1)).toNat=n:=by rw[ed'.1,ed'.2,ed,l'];omega
 have KR:(DX h k g).2.2.2.2.2.1[k]?=some v:=hv;have e:uq h k q.2.1.2.2 g=(g.1,h.2.1,h.2.2.1,h.2.2.2.1.set k g.2,h.2.2.2.2.1,h.2.2.2.2.2.1.set k (evN n v),h.2.2.2.2.2.2):=by unfold uq;rw[ec,Oo KR n];rfl
 have vk:=agI hvb n;obtain⟨hvl,_⟩:=aB.1 hv;rw[e];refine Live.step (Q:=Q) (Q':=λj C q v b=>(j=k->q.2.2.2.2.1=H)/\(j≠k->Q j C q v b)) f hk h2 fl.mem rfl rfl (aD ..) (λj hj=>⟨aF (cd hj),rfl,aF (cd hj),rfl⟩) fl.out (λj hj C q v b hA=>⟨λe=>absurd e hj,λ_=>hA⟩) ?_;refine⟨g.2,p,evN n v,b,bq hk,hp,bq hvl,hb,GU,x,P',C',F,s',by rw[vk.2.1];exact w3,by rw[vk.2.2.1];exact wm,λiB zV=>?_,λ_=>fl.hold,λe=>absurd rfl e⟩;rcases Nat.eq_zero_or_pos n with g0|g0;subst g0;refine wc iB λe0=>zV ?_;rw[e0]at l';exact cp (by simpa using l');exact vk.2.2.2 g0
theorem AX (g:Good n h):h.2.2.2.2.2.2.2.2.1.2.2.1.length=16:=by have:=g.Ke;unfold fu qB at this;simp only[ae,bn]at this;have e:=this.1.1.2.1.1.2;omega
theorem qC (g:Good n h):h.2.2.2.1.length<=2:=(nM g.lens).1
theorem F9 (hn:n<=500000000000)(g:Good n h)(f:Live Q h)(hk:k<h.2.2.2.1.length:=by omega):Live (λj C q v b=>(j=k->q.2.2.2.2.1=false)/\(j≠k->Q j C q v b)) (fC k h):=by
 have h2:=qC g;obtain⟨q,p,v,b,g1,g2,g3,g4,hd,x,P,C,F,s,w1,w2,w3,_⟩:=f.rx k hk;have rx:=g.rx q (aQ g1);obtain⟨c,hc,fl⟩:=BS f.mem (by omega) s (rx.rx (by omega)) h.2.2.2.2.2.2.2.2.1.2.2.1 (AX g);have e:fC k h=uq h k q.2.1.2.2 (fX (bI 38) h.1 0 q h.2.2.2.2.2.2.2.2.1.2.2.1):=by unfold fC;rw[g1,f.maps]
 rw[e];exact Xc f h2 hk g1 g2 g3 g4 s w1 w2 w3 (g.vec v (aQ g3)) (by omega) fl
theorem Live.xU {Q':Nat->az Fw->bt->Vector->Bool->Prop}(f:Live Q h)(hq:∀k,k<h.2.2.2.1.length->∀C q v b,Q k C q v b->Q' k C q v b):Live Q' h:=by refine⟨f.maps,f.mem,f.tx,λk hk=>?_⟩;obtain⟨q,p,v,b,g1,g2,g3,g4,g5⟩:=f.rx k hk;exact⟨q,p,v,b,g1,g2,g3,g4,g5.xU (hq k hk)⟩
abbrev ak1:Nat->az Fw->bt->Vector->Bool->Prop:=λ_ _ q _ _=>q.2.2.2.2.1=false
theorem Ig (hn:n<=400000000000)(g:Good n h)(f:Live Q h):Live ak1 (ko h):=by
 have h2:=qC g;have key:∀k:Nat,k<=h.2.2.2.1.length->Good (n+320*(k:Int)) (eQ fC k h)/\(eQ fC k h).2.2.2.1.length=h.2.2.2.1.length/\Live (λj _ q _ _=>j<k->q.2.2.2.2.1=false) (eQ fC k h):=by intro k;induction k with|zero=>intro _;exact⟨g.mono,rfl,f.xU λk _ C q v b _ e=>by omega⟩|succ k ih=>intro hk;obtain⟨i1,i2,i3⟩:=ih (by omega);have st:=F9 (by omega) i1 i3 (k:=k);have gl:=CD (by omega) i1 k;have e2:(fC k (eQ fC k h)).2.2.2.1.length=(eQ fC k h).2.2.2.1.length:=(pX k _).rx;refine⟨gl.mono (by push_cast;omega),e2.trans i2,st.xU λj hj C q v b hA M3=>?_⟩;by_cases h1:j=k;exact hA.1 h1;exact hA.2 h1 (by omega)
 unfold ko;rw[g.ok (by omega),ah];obtain⟨i1,i2,i3⟩:=key h.2.2.2.1.length (aX _);exact i3.xU λj hj C q v b hA=>hA (by omega)
theorem JH (hn:n<=400000000000)(g:Good n h)(f:Live Q h)(y:Bytes):Live zw (gV h y):=by
 have h2:=qC g;have loose:Live zw h:=f.xU λ_ _ _ _ _ _ _=>trivial;have BA:∀a b c d,Live zw (oR h a b c d):=λa b c d=>loose.same (h':=oR h a b c d) f.mem rfl rfl rfl rfl rfl f.tx (λ_ _ _=>rfl) h2;unfold gV;rw[g.ok (by omega)];simp only[ak,af];cases (eO y).2 !=0;case true=>exact BA ..
 cases !kK h.2.2.2.2.2.2.2.1 (eO y).1;case true=>exact BA ..
 cases iS h.2.2.2.2.2.2.2.2.1 (h.2.2.2.1.length:Int) (eO y).1== -1;case true=>exact BA ..
 simp only[af];generalize (iS h.2.2.2.2.2.2.2.2.1 (h.2.2.2.1.length:Int) (eO y).1).toNat=k;rcases hq:h.2.2.2.1[k]? with _|q;exact loose;simp only;obtain⟨hk,_⟩:=aB.1 hq;obtain⟨q',p,v,b,g1,g2,g3,g4,hd,x,P,C,F,s,w1,w2,w3,_⟩:=loose.rx k hk;rw[hq]at g1;have g1:=bQ g1;subst g1;obtain⟨c,H,hc,fl⟩:=LN f.mem (by omega) s (by omega) (g.rx q (aQ hq)) h.2.2.2.2.2.2.2.2.1.2.2.1 (AX g) (eO y).1 h.2.2.2.2.2.2.2.2.2.2.1;rw[f.maps];have:=Xc (BA h.2.2.2.2.2.2.2.2.2.2.2.2.2.2.2.1 h.2.2.2.2.2.2.2.2.2.2.2.2.2.2.2.2.1 h.2.2.2.2.2.2.2.2.2.2.2.2.2.2.2.2.2.1 (ar (h.2.2.2.2.2.2.2.2.2.2.2.2.2.2.2.2.2.2+1))) h2 hk hq g2 g3 g4 s w1 w2 w3 (g.vec v (aQ g3)) (by omega) fl;exact this.xU λ_ _ _ _ _ _ _=>trivial
def jF (l:az Stream)(f:zW):aC Stream:=l.find? (YB f)
def Dl (p:aM)(s:Stream):Stream:=
 bif p.2.2.2.2.2.2.2.2.1==17 then(s.1,s.2.1,s.2.2.1++udp p,s.2.2.2) else
 bif lR p 2 then s else bif s.2.2.2||lR p 4 then s else bif decide (fH s p<=((body p).length:Int)) then Rv s p else s
def yv (p:aM):aC Stream->aC Stream
 |none=>bif p.2.2.2.2.2.2.2.2.1==17 then some (dP p,0,udp p,false) else bif lR p 2 then some (dP p,tmod (ar (p.2.2.2.2.2.2.2.2.2.2.2.1+1)) 4294967296,([]:Bytes),false) else none
 |some s=>some (Dl p s)
theorem Yl (p:aM)(s:Stream):(Dl p s).1=s.1:=by
 unfold Dl;cases p.2.2.2.2.2.2.2.2.1==17;case true=>rfl
 cases lR p 2;case true=>rfl
 cases s.2.2.2||lR p 4;case true=>rfl
 cases decide (fH s p<=((body p).length:Int))<;>rfl
theorem Su (A:az Stream)(y:Stream)(B:az Stream)(f:zW):jF (A++y::B) f=(jF A f).or (if y.1=f then some y else jF B f):=by unfold jF;rw[List.find?_append,List.find?_cons];by_cases h:y.1=f;rw[aJ h,show YB f y=true from aw h];rw[aI h,show YB f y=false from au h]
theorem UC {p:aM}(hp:cH p=true)(l:az Stream)(f:zW):jF (jx l p) f=if dP p=f then yv p (jF l f) else jF l f:=by
 cases hi:l.findIdx? (YB (dP p))with
 |none=>
  have hn:=List.findIdx?_eq_none_iff.1 hi;have hl:jF l (dP p)=none:=List.find?_eq_none.2 λs hs=>by rw[hn s hs];simp
  have e:jx l p=match yv p none with|some y=>l++[y]|none=>l:=by
   unfold jx yv;rw[hp,hi];simp only[ak,af];cases p.2.2.2.2.2.2.2.2.1==17;case true=>rfl
   cases lR p 2<;>rfl
  have hy:∀y,yv p none=some y->y.1=dP p:=by intro y hy;unfold yv at hy;cases h17:p.2.2.2.2.2.2.2.2.1==17 with|true=>rw[h17]at hy;rw[<-bQ hy]|false=>rw[h17]at hy;cases h2:lR p 2 with|true=>rw[h2]at hy;rw[<-bQ hy]|false=>rw[h2]at hy;cases hy
  rw[e];cases ho:yv p none with|none=>by_cases ef:dP p=f;rw[aJ ef,<-ef,hl,ho];rw[aI ef]|some y=>have h1:=hy y ho;show jF (l++y::[]) f=_;rw[Su,h1];by_cases ef:dP p=f;rw[aJ ef,aJ ef,<-ef,hl,ho];rfl;rw[aI ef,aI ef];show(jF l f).or none=_;cases jF l f<;>rfl
 |some i=>
  obtain⟨iz,h1,h2⟩:=List.findIdx?_eq_some_iff_getElem.1 hi;have hd:l.getD i Vc=l[i]:=cO iz Vc;have e:jx l p=l.set i (Dl p l[i]):=by
   have same:l=l.set i l[i]:=(List.set_getElem_self iz).symm;unfold jx Dl;rw[hp,hi];simp only[ak,af,hd];cases p.2.2.2.2.2.2.2.2.1==17;case true=>rfl
   cases lR p 2;case true=>exact same
   cases l[i].2.2.2||lR p 4;case true=>exact same
   cases decide (fH l[i] p<=((body p).length:Int))with|true=>rfl|false=>exact same
  have hs:∀y,l.set i y=l.take i++y::l.drop (i+1):=λy=>by rw[List.set_eq_take_append_cons_drop,aJ iz]
  have hl:l=l.take i++l[i]::l.drop (i+1):=(List.set_getElem_self iz).symm.trans (hs _);have f1:l[i].1=dP p:=bz h1;have ht:jF (l.take i) (dP p)=none:=List.find?_eq_none.2 λs hs=>by obtain⟨j,hj⟩:=List.getElem?_of_mem hs;obtain⟨hjl,ej⟩:=aB.1 hj;rw[aY]at hjl;have:=h2 j (by omega);rw[<-ej,List.getElem_take];exact this
  have key:∀y:Stream,y.1=dP p->jF (l.take i++y::l.drop (i+1)) f=if dP p=f then some y else(jF (l.take i) f).or (jF (l.drop (i+1)) f):=by intro y hy;rw[Su,hy];by_cases ef:dP p=f;rw[aJ ef,aJ ef,<-ef,ht];rfl;rw[aI ef,aI ef]
  have k0:=key l[i] f1;rw[<-hl]at k0;rw[e,hs,key _ ((Yl p l[i]).trans f1),k0];by_cases ef:dP p=f;rw[aJ ef,aJ ef,aJ ef];rfl;rw[aI ef,aI ef,aI ef]
def EZ (f:zW)(o:aC Stream)(p:aM):aC Stream:=if dP p=f then yv p o else o
def Ba (f:zW)(o:aC Stream)(l:az aM):aC Stream:=l.foldl (EZ f) o
theorem Ce (f:zW)(o:aC Stream)(a b:az aM):Ba f o (a++b)=Ba f (Ba f o a) b:=List.foldl_append ..
theorem S3 (f:zW)(o:aC Stream)(p:aM)(b:az aM):Ba f o (p::b)=Ba f (EZ f o p) b:=rfl
theorem UW {f:zW}:∀(l:az aM)(o:aC Stream),(∀p∈l,dP p≠f)->Ba f o l=o
 |[],o,_=>rfl
 |p::l,o,h=>by rw[S3,EZ,aI (h p List.mem_cons_self)];exact UW l o λq hq=>h q (dZ _ hq)
theorem Sw {p:aM}(hp:cH p=true)(l:az Stream)(f:zW):jF (jx l p) f=EZ f (jF l f) p:=UC hp l f
theorem NW {p:aM}(h:p.2.2.2.2.2.2.2.2.2.2.2.2.2.1=n):lR p b=(ar (BitVec.toNat (gM n&&&gM b)) !=0):=by unfold lR;rw[h]
theorem ZT {p:aM}(h:BR p.2.2.2.2.2.2.2.2.2.2.2.2.2.1=true):lR p 2=false/\lR p 4=false:=by simp only[BR,cJ,bn]at h;rcases h with((h|h)|h)|h<;>rw[NW h,NW h]<;>decide
theorem afH {p:aM}(h:p.2.2.2.2.2.2.2.2.2.2.2.2.2.1=16):lR p 1=false/\lR p 2=false/\lR p 4=false:=by rw[NW h,NW h,NW h];decide
theorem Cj {p:aM}(k:(p.2.2.2.2.2.2.2.2.1==17)=false)(b2:lR p 2=false)(b4:lR p 4=false)(t:Stream):Dl p t=bif t.2.2.2 then t else bif decide (fH t p<=((body p).length:Int)) then Rv t p else t:=by unfold Dl;rw[k,b2,b4,Bool.or_false];rfl
theorem afq {s:nr}{p:aM}(h:Fs s p=true)(f:zW)(o:aC Stream):EZ f (EZ f o s.1) p=EZ f o (ue s p).1:=by
 have hc:=h;simp only[Fs,acb,SM,X1,akb,ae,bn,aG]at hc;obtain⟨⟨hs,hp,⟨_,_,_,_,_,p6,p7,p8,p9,p10,_⟩,h6,Uf,hfl⟩,⟨_,_,_,hlen,asK⟩,ajA,_⟩:=hc;have e:(ue s p).1=(s.1.1,s.1.2.1,s.1.2.2.1,s.1.2.2.2.1,s.1.2.2.2.2.1,s.1.2.2.2.2.2.1,s.1.2.2.2.2.2.2.1,s.1.2.2.2.2.2.2.2.1,s.1.2.2.2.2.2.2.2.2.1,s.1.2.2.2.2.2.2.2.2.2.1,s.1.2.2.2.2.2.2.2.2.2.2.1,s.1.2.2.2.2.2.2.2.2.2.2.2.1,s.1.2.2.2.2.2.2.2.2.2.2.2.2.1,p.2.2.2.2.2.2.2.2.2.2.2.2.2.1,s.1.2.2.2.2.2.2.2.2.2.2.2.2.2.2.1,s.1.2.2.2.2.2.2.2.2.2.2.2.2.2.2.2++p.2.2.2.2.2.2.2.2.2.2.2.2.2.2.2):=by unfold ue;rw[h];rfl
 generalize (ue s p).1=j at e;have fj:dP j=dP s.1:=by rw[e];rfl
 have fp:dP p=dP s.1:=by unfold dP;rw[p6,p7,p8,p9,p10]
 unfold EZ;rw[fj,fp];by_cases ef:dP s.1=f;rw[aJ ef,aJ ef,aJ ef];have k6:(s.1.2.2.2.2.2.2.2.2.1==17)=false:=by rw[p8,h6];rfl
 have q6:(p.2.2.2.2.2.2.2.2.1==17)=false:=by rw[h6];rfl
 have j6:(j.2.2.2.2.2.2.2.2.1==17)=false:=by rw[e];exact k6
 have sb:=afH Uf;have pb:=ZT hfl;have jb:∀b,lR j b=lR p b:=λb=>by rw[e];rfl
 cases o with
 |none=>
  show yv p (yv s.1 none)=yv j none;have e1:yv s.1 none=none:=by unfold yv;rw[k6,sb.2.1];rfl
  rw[e1];unfold yv;rw[q6,pb.1,j6,jb,pb.1];rfl
 |some t=>
  show some (Dl p (Dl s.1 t))=some (Dl j t);congr 1;have bl:body j=body s.1++body p:=by rw[e];rfl
  have js:j.2.2.2.2.2.2.2.2.2.2.2.1=s.1.2.2.2.2.2.2.2.2.2.2.2.1:=by rw[e]
  have amH:(body j).length=(body s.1).length+(body p).length:=by rw[bl,aj]
  have hl1:(body s.1).length+(body p).length<=320:=by have:(s.1.2.2.2.2.2.2.2.2.2.2.2.2.2.2.2.length:Int)+(p.2.2.2.2.2.2.2.2.2.2.2.2.2.2.2.length:Int)<=320:=asK;show s.1.2.2.2.2.2.2.2.2.2.2.2.2.2.2.2.length+p.2.2.2.2.2.2.2.2.2.2.2.2.2.2.2.length<=320;omega
  have seg:=wE (show ov s.1=true by simp only[cH,ae]at hs;exact hs.1);have sq:0<=s.1.2.2.2.2.2.2.2.2.2.2.2.1/\s.1.2.2.2.2.2.2.2.2.2.2.2.1<=4294967295:=by unfold sA at seg;rw[show(s.1.2.2.2.2.2.2.2.2.1==17)=false from k6]at seg;simp only[af,ae,aS]at seg;exact seg.2.2.2.2.1
  have akX:p.2.2.2.2.2.2.2.2.2.2.2.1=(s.1.2.2.2.2.2.2.2.2.2.2.2.1+((body s.1).length:Int))%4294967296:=by rw[ajA];show tmod (ar (s.1.2.2.2.2.2.2.2.2.2.2.2.1+((body s.1).length:Int))) 4294967296=_;rw[al,cZ (by omega)]
  rw[Cj k6 sb.2.1 sb.2.2 t,Cj j6 ((jb 2).trans pb.1) ((jb 4).trans pb.2) t];cases hd:t.2.2.2 with
  |true=>rw[ah,ah,Cj q6 pb.1 pb.2,hd,ah]
  |false=>
   rw[af,af];have a0:fH t s.1=(t.2.1-s.1.2.2.2.2.2.2.2.2.2.2.2.1)%4294967296:=rfl;have a1:fH t j=fH t s.1:=by unfold fH;rw[js]
   have ai:=NO t s.1;rw[a1,amH];by_cases h1:fH t s.1<=((body s.1).length:Int)
   rw[aw h1,ah,aw (show fH t s.1<=(((body s.1).length+(body p).length:Nat):Int) by omega),ah,Cj q6 pb.1 pb.2];have d1:(Rv t s.1).2.2.2=false:=sb.1;have a2:fH (Rv t s.1) p=0:=by show((t.2.1+((body s.1).length:Int)-fH t s.1)%4294967296-p.2.2.2.2.2.2.2.2.2.2.2.1)%4294967296=0;rw[akX];omega
   rw[d1,af,a2,lH,ah];show(t.1,((t.2.1+((body s.1).length:Int)-fH t s.1)%4294967296+((body p).length:Int)-fH (Rv t s.1) p)%4294967296,(t.2.2.1++(body s.1).drop (fH t s.1).toNat)++(body p).drop (fH (Rv t s.1) p).toNat,lR p 1)=(t.1,(t.2.1+((body j).length:Int)-fH t j)%4294967296,t.2.2.1++(body j).drop (fH t j).toNat,lR j 1)
   rw[a2,a1,jb,amH,bl,List.drop_append_of_le_length (by omega),aE];refine Prod.ext rfl (Prod.ext ?_ rfl);show((t.2.1+((body s.1).length:Int)-fH t s.1)%4294967296+((body p).length:Int)-0)%4294967296=(t.2.1+(((body s.1).length+(body p).length:Nat):Int)-fH t s.1)%4294967296;omega;rw[au h1,af,Cj q6 pb.1 pb.2,hd,af];have a2:fH t p=(fH t s.1-((body s.1).length:Int)):=by show(t.2.1-p.2.2.2.2.2.2.2.2.2.2.2.1)%4294967296=_;rw[akX];omega
   rw[a2];by_cases h2:fH t s.1<=(((body s.1).length+(body p).length:Nat):Int)
   rw[aw h2,aw (show fH t s.1-((body s.1).length:Int)<=((body p).length:Int) by omega),ah,ah];show(t.1,(t.2.1+((body p).length:Int)-fH t p)%4294967296,t.2.2.1++(body p).drop (fH t p).toNat,lR p 1)=(t.1,(t.2.1+((body j).length:Int)-fH t j)%4294967296,t.2.2.1++(body j).drop (fH t j).toNat,lR j 1)
   rw[a2,a1,jb,amH,bl];refine Prod.ext rfl (Prod.ext ?_ (Prod.ext ?_ rfl));show(t.2.1+((body p).length:Int)-(fH t s.1-((body s.1).length:Int)))%4294967296=(t.2.1+(((body s.1).length+(body p).length:Nat):Int)-fH t s.1)%4294967296;omega;show t.2.2.1++(body p).drop (fH t s.1-((body s.1).length:Int)).toNat=t.2.2.1++(body s.1++body p).drop (fH t s.1).toNat;rw[List.drop_append];rw[cx (show(body s.1).length<=(fH t s.1).toNat by omega),bX];congr 2;omega;rw[au h2,au (show¬fH t s.1-((body s.1).length:Int)<=((body p).length:Int) by omega)];rfl
 rw[aI ef,aI ef,aI ef]
theorem gN {s A B:Bytes}{n:Nat}(h:s.drop k=A++B)(hA:A.length=n):s.drop (k+n)=B:=by rw[<-eZ,h,<-hA,List.drop_left]
theorem rl {s t:Bytes}{x:UInt8}(h:s.drop k=x::t):bR s k=x.toNat:=by
 have e:s[k]?=some x:=by have:=congrArg (λl=>l[0]?) h;simpa[bP]using this
 unfold bR;rw[bc,e];rfl
theorem kY {s t:Bytes}{x:UInt8}(h:s.drop k=x::t):s.drop (k+1)=t:=gN (A:=[x]) h rfl
theorem lA {s t:Bytes}{v:Nat}(hv:v<=65535)(h:s.drop k=aW (v:Int)++t):cv s (k:Int)=(v:Int):=by
 obtain⟨a,b,e,ea,eb⟩:=wh hv;rw[e]at h;have h1:s.drop k=a::b::t:=h;have hl:k+2<=s.length:=by have:=congrArg List.length h1;simp only[aP,aV]at this;omega
 unfold cv fR;rw[aw (show 0<=(k:Int)/\(k:Int)+2<=(s.length:Int) by omega),ah,ax,rl h1,rl (kY h1),ea,eb];omega
theorem BU {s t:Bytes}{v:Nat}(hv:v<=4294967295)(h:s.drop k=eo (v:Int)++t):gn s (k:Int)=(v:Int):=by
 obtain⟨a,b,c,d,e,ea,eb,ec,ed⟩:=D9 hv;rw[e]at h;have h1:s.drop k=a::b::c::d::t:=h;have hl:k+4<=s.length:=by have:=congrArg List.length h1;simp only[aP,aV]at this;omega
 have g2:bR s (k+2)=c.toNat:=rl (kY (kY h1));have g3:bR s (k+3)=d.toNat:=rl (kY (kY (kY h1)));unfold gn fR;rw[aw (show 0<=(k:Int)/\(k:Int)+4<=(s.length:Int) by omega),ah,ax,rl h1,rl (kY h1),g2,g3,ea,eb,ec,ed];omega
theorem oN {v:Nat}(h:v<=65535:=by omega):(aW (v:Int)).length=2:=by rw[E4,aS.2 ⟨by omega,by omega⟩];rfl
theorem Ko {v:Nat}(h:v<=4294967295:=by omega):(eo (v:Int)).length=4:=by rw[IA,aS.2 ⟨by omega,by omega⟩];rfl
theorem acu {v:Nat}(h:v<=281474976710655):Ih (v:Int)=aW ((v/4294967296:Nat):Int)++eo ((v%4294967296:Nat):Int):=by have e32:(2:Int)^(ow 32)=4294967296:=rfl;have ea:BitVec.toNat (gM (v:Int)&&&gM 4294967295)=v%4294967296:=(afK v 4294967295).trans (Nat.and_two_pow_sub_one_eq_mod v 32);have h1:=bO ((v/4294967296:Nat):Int);have h2:=eP ((v%4294967296:Nat):Int);unfold Ih ju;rw[kz];simp only[lF,od,ab];rw[e32,Int.fdiv_eq_ediv_of_nonneg _ (by omega),ea,iZ (n:=v%4294967296),show(v:Int)/4294967296=((v/4294967296:Nat):Int) by omega,bf];rfl
theorem acs {v:Nat}(h:v<=281474976710655):(Ih (v:Int)).length=6:=by rw[acu h,aj,oN,Ko]
theorem JK {s t:Bytes}{v:Nat}(hv:v<=281474976710655)(h:s.drop k=Ih (v:Int)++t):AB s (k:Int)=(v:Int):=by rw[acu hv,aE]at h;have h1:=lA (v:=v/4294967296) (by omega) h;have h3:=BU (v:=v%4294967296) (by omega) (gN h (oN));unfold AB;rw[h1,show(k:Int)+2=((k+2:Nat):Int) by omega,h3];omega
theorem agH {e:NN}(h:qF e=true):gC (Fe e)=(e,true):=by
 have hb:=h;unfold qF at hb;simp only[ae,aS,bne_iff_ne,ne_eq]at hb;obtain⟨d,s,v,t,b⟩:=e;simp only at hb;obtain⟨h1,h2,h3,h4,h5,h6⟩:=hb;obtain⟨d,rfl⟩:=aA h1.1;obtain⟨s,rfl⟩:=aA h2.1;obtain⟨t,rfl⟩:=aA (show 0<=t by omega);have b1:d<=281474976710655:=by omega
 have b2:s<=281474976710655:=by omega
 have b4:t<=65535:=by omega
 have l1:=acs b1;have l2:=acs b2;have l3:=oN b4;by_cases hv:v<0;obtain rfl:v= -1:=by omega
 have e:Fe ((d:Int),(s:Int), -1,(t:Int),b)=Ih (d:Int)++(Ih (s:Int)++(aW (t:Int)++b)):=by show(bif decide ((-1:Int)>=0) then _ else Ih (d:Int)++Ih (s:Int))++aW (t:Int)++b=_;rw[show decide ((-1:Int)>=0)=false from rfl,af];simp only[aE]
 generalize Fe ((d:Int),(s:Int), -1,(t:Int),b)=x at e;have hl:x.length=14+b.length:=by rw[e];simp only[aj];omega
 have k0:x.drop 0=Ih (d:Int)++(Ih (s:Int)++(aW (t:Int)++b)):=e;have k1:x.drop 6=Ih (s:Int)++(aW (t:Int)++b):=gN k0 l1;have k2:x.drop 12=aW (t:Int)++b:=gN k1 l2;have k3:x.drop 14=b:=gN k2 l3;have f0:AB x 0=(d:Int):=JK b1 k0;have f1:AB x 6=(s:Int):=JK b2 k1;have f2:cv x 12=(t:Int):=lA b4 k2;have eb:wA x=((d:Int),(s:Int), -1,(t:Int),b):=by unfold wA;rw[f0,f1,f2,k3]
 unfold gC;rw[dw,af,f2,show((t:Int)==33024)=false from by simpa using h5,af,eb,h];rfl;obtain⟨v,rfl⟩:=aA (show 0<=v by omega);have b3:v<=65535:=by omega
 have l5:=oN (v:=33024);have l6:=oN b3;have e:Fe ((d:Int),(s:Int),(v:Int),(t:Int),b)=Ih (d:Int)++(Ih (s:Int)++(aW ((33024:Nat):Int)++(aW (v:Int)++(aW (t:Int)++b)))):=by show(bif decide ((v:Int)>=0) then(((Ih (d:Int)++Ih (s:Int))++aW 33024)++aW (v:Int)) else _)++aW (t:Int)++b=_;rw[lH,ah];simp only[aE];rfl
 generalize Fe ((d:Int),(s:Int),(v:Int),(t:Int),b)=x at e;have hl:x.length=18+b.length:=by rw[e];simp only[aj];omega
 have k0:x.drop 0=Ih (d:Int)++(Ih (s:Int)++(aW ((33024:Nat):Int)++(aW (v:Int)++(aW (t:Int)++b)))):=e;have k1:x.drop 6=Ih (s:Int)++(aW ((33024:Nat):Int)++(aW (v:Int)++(aW (t:Int)++b))):=gN k0 l1;have k2:x.drop 12=aW ((33024:Nat):Int)++(aW (v:Int)++(aW (t:Int)++b)):=gN k1 l2;have k3:x.drop 14=aW (v:Int)++(aW (t:Int)++b):=gN k2 l5;have k4:x.drop 16=aW (t:Int)++b:=gN k3 l6;have k5:x.drop 18=b:=gN k4 l3;have f0:AB x 0=(d:Int):=JK b1 k0;have f1:AB x 6=(s:Int):=JK b2 k1;have f2:cv x 12=33024:=lA (v:=33024) (by omega) k2;have f3:cv x 14=(v:Int):=lA b3 k3;have f4:cv x 16=(t:Int):=lA b4 k4;have eb:FI x=((d:Int),(s:Int),(v:Int),(t:Int),b):=by unfold FI;rw[f0,f1,f3,f4,k5]
 unfold gC;rw[dw,af,f2,show((33024:Int)==33024)=true from rfl,ah,eb,h];rfl
theorem UM {A X Y B:Bytes}(hA:A.length=k)(hX:X.length=Y.length:=by omega):xi (A++(X++B)) (k:Int) Y=A++(Y++B):=by subst hA;unfold xi fR;rw[aw (by simp only[aj];omega),ah,ax,List.take_left,<-eZ,List.drop_left,<-hX,List.drop_left,aE]
theorem abM {x:Int}{y:Nat}(h:y<=255:=by omega):∃a b:UInt8,bs2 x (gX (y:Int))=[a,b]/\b.toNat=y:=by refine⟨_,_,rfl,?_⟩;rw[Cl];exact GD
theorem ajf {y:Nat}(h:x<=255)(k:y<=255):∃a b:UInt8,bs2 (gX (x:Int)) (gX (y:Int))=[a,b]/\a.toNat=x/\b.toNat=y:=by refine⟨_,_,rfl,?_,?_⟩;rw[Cl];exact GD;rw[Cl];exact GD
theorem abQ (s:Bytes):∃c:Nat,c<=65535/\MX s=(c:Int):=by have:=acM s ((s.length+1)/2);exact⟨(MX s).toNat,by unfold MX;omega,by unfold MX;omega⟩
theorem ajO {d:Ip}(h:Uz d=true)(z:Bytes):ll (Ah d++d.2.2.2.2.2.2++z)=(d,true):=by
 have hb:=h;have hr:Ra d=(Ah d++d.2.2.2.2.2.2,true):=by unfold Ra;rw[h];rfl
 unfold Uz at hb;simp only[ae,aS,aG]at hb;obtain⟨o,i,t,p,a,b,q⟩:=d;simp only at hb hr⊢;obtain⟨h1,h2,h3,h4,h5,h6,h7⟩:=hb;obtain⟨o,rfl⟩:=aA h1.1;obtain⟨i,rfl⟩:=aA h4.1;obtain⟨t,rfl⟩:=aA h2.1;obtain⟨p,rfl⟩:=aA h3.1;obtain⟨a,rfl⟩:=aA h5.1;obtain⟨b,rfl⟩:=aA h6.1;obtain⟨x0,x1,e0,e1⟩:=abM (x:=69) (y:=o);obtain⟨x8,x9,e8,e8',e9⟩:=ajf (x:=t) (y:=p) (by omega) (by omega);obtain⟨c,hc,ec⟩:=abQ (JB ((o:Int),(i:Int),(t:Int),(p:Int),(a:Int),(b:Int),q));have l2:=oN (v:=20+q.length);have l4:=oN (v:=i);have l6:=oN (v:=16384);have l0:=oN (v:=0);have lc:=oN hc;have la:=Ko (v:=a);have lb:=Ko (v:=b);have asb:JB ((o:Int),(i:Int),(t:Int),(p:Int),(a:Int),(b:Int),q)=([x0,x1]++(aW ((20+q.length:Nat):Int)++(aW (i:Int)++(aW ((16384:Nat):Int)++[x8,x9]))))++(aW ((0:Nat):Int)++(eo (a:Int)++eo (b:Int))):=by show((((((bs2 69 (gX (o:Int))++aW (20+(q.length:Int)))++aW (i:Int))++aW 16384)++bs2 (gX (t:Int)) (gX (p:Int)))++aW 0)++eo (a:Int))++eo (b:Int)=_;rw[e0,e8,show(20:Int)+(q.length:Int)=((20+q.length:Nat):Int) by omega];simp only[aE];rfl
 have eh:Ah ((o:Int),(i:Int),(t:Int),(p:Int),(a:Int),(b:Int),q)=([x0,x1]++(aW ((20+q.length:Nat):Int)++(aW (i:Int)++(aW ((16384:Nat):Int)++[x8,x9]))))++(aW (c:Int)++(eo (a:Int)++eo (b:Int))):=by unfold Ah;rw[ec,asb];exact UM (k:=10) (by simp only[aj,aV,dg];omega)
 generalize hH:Ah ((o:Int),(i:Int),(t:Int),(p:Int),(a:Int),(b:Int),q)=H at eh hr;have hHl:H.length=20:=by rw[eh];simp only[aj,aV,dg];omega
 have e:H++q++z=[x0,x1]++(aW ((20+q.length:Nat):Int)++(aW (i:Int)++(aW ((16384:Nat):Int)++([x8,x9]++(aW (c:Int)++(eo (a:Int)++(eo (b:Int)++(q++z)))))))):=by rw[eh];simp only[aE]
 have et:(H++q++z).take (20+q.length)=H++q:=List.take_left' (by rw[aj,hHl]);have hl:(H++q++z).length=20+q.length+z.length:=by simp only[aj,hHl]
 generalize H++q++z=s at e et hl;have k0:s.drop 0=[x0,x1]++(aW ((20+q.length:Nat):Int)++(aW (i:Int)++(aW ((16384:Nat):Int)++([x8,x9]++(aW (c:Int)++(eo (a:Int)++(eo (b:Int)++(q++z)))))))):=e;have k1:s.drop 1=x1::(aW ((20+q.length:Nat):Int)++(aW (i:Int)++(aW ((16384:Nat):Int)++([x8,x9]++(aW (c:Int)++(eo (a:Int)++(eo (b:Int)++(q++z)))))))):=kY k0;have k2:=gN k0 (n:=2) rfl;have k4:=gN k2 l2;have k6:=gN k4 l4;have k8:s.drop 8=x8::x9::(aW (c:Int)++(eo (a:Int)++(eo (b:Int)++(q++z)))):=gN k6 l6;have k10:s.drop 10=aW (c:Int)++(eo (a:Int)++(eo (b:Int)++(q++z))):=kY (kY k8);have k12:s.drop 12=eo (a:Int)++(eo (b:Int)++(q++z)):=gN k10 lc;have k16:s.drop 16=eo (b:Int)++(q++z):=gN k12 la;have k20:s.drop 20=q++z:=gN k16 lb;have f1:bR s 1=o:=(rl k1).trans e1;have f2:cv s 2=((20+q.length:Nat):Int):=lA (k:=2) (by omega) k2;have f4:cv s 4=(i:Int):=lA (k:=4) (by omega) k4;have f8:bR s 8=t:=(rl k8).trans e8';have f9:bR s 9=p:=(rl (kY k8)).trans e9;have f12:gn s 12=(a:Int):=BU (k:=12) (by omega) k12;have f16:gn s 16=(b:Int):=BU (k:=16) (by omega) k16;have fq:(s.take (20+q.length)).drop 20=q:=by rw[et];exact(congrArg (λn=>List.drop n (H++q)) hHl.symm).trans List.drop_left
 have ea:Dd s=((o:Int),(i:Int),(t:Int),(p:Int),(a:Int),(b:Int),q):=by unfold Dd;rw[f1,f2,f4,f8,f9,f12,f16,ax,fq]
 unfold ll;rw[ea,hr,f2,ax,et,dw,dw,dw];simp only[bJ,af,fN,cK,ah]
theorem sum_nat (a b:Int)(g:fE):∃c:Nat,c<=65535/\Th a b g=(c:Int):=by unfold Th;cases (MX (xh a b g.1 ((bare g).length:Int)++bare g)==0)&&(g.1==17)with|true=>exact⟨65535,by omega,rfl⟩|false=>exact abQ _
theorem aic (h:EO a b g=true):nP a b g.1 (CO a b g)=(g,true):=by
 have hr:Ak a b g=(CO a b g,true):=by unfold Ak;rw[h];rfl
 have hs:sA g=true:=by unfold EO at h;simp only[ae]at h;exact h.1
 obtain⟨c,hc,ec⟩:=sum_nat a b g;have lc:=oN hc;have l0:=oN (v:=0);unfold sA at hs;simp only[ae,aS,aN,cG]at hs;obtain⟨k,s,d,n,m,f,w,q⟩:=g;simp only at hs hr ec⊢;obtain⟨h1,h2,h3,h4⟩:=hs;obtain⟨s,rfl⟩:=aA h1.1;obtain⟨d,rfl⟩:=aA h2.1;have ls:=oN (v:=s);have ld:=oN (v:=d);cases h17:k==17 with
 |true=>
  have hk:k=17:=by simpa using h17
  rw[h17]at h4;simp only[ah,ae,bn]at h4;obtain⟨rfl,rfl,rfl,rfl⟩:=h4;subst hk;have ln:=oN (v:=8+q.length);have e:CO a b (17,(s:Int),(d:Int),0,0,0,0,q)=(aW (s:Int)++(aW (d:Int)++aW ((8+q.length:Nat):Int)))++(aW (c:Int)++q):=by
   have eb:bare (17,(s:Int),(d:Int),0,0,0,0,q)=(aW (s:Int)++(aW (d:Int)++aW ((8+q.length:Nat):Int)))++(aW ((0:Nat):Int)++q):=by show(((aW (s:Int)++aW (d:Int))++aW (8+(q.length:Int)))++aW 0)++q=_;rw[show(8:Int)+(q.length:Int)=((8+q.length:Nat):Int) by omega];simp only[aE];rfl
   unfold CO;rw[ec,eb];exact UM (k:=6) (by simp only[aj];omega)
  generalize CO a b (17,(s:Int),(d:Int),0,0,0,0,q)=x at e hr;have hl:x.length=8+q.length:=by rw[e];simp only[aj];omega
  have k0:x.drop 0=aW (s:Int)++(aW (d:Int)++(aW ((8+q.length:Nat):Int)++(aW (c:Int)++q))):=by rw[eI,e];simp only[aE]
  have k2:x.drop 2=aW (d:Int)++(aW ((8+q.length:Nat):Int)++(aW (c:Int)++q)):=gN k0 ls;have k4:x.drop 4=aW ((8+q.length:Nat):Int)++(aW (c:Int)++q):=gN k2 ld;have k6:x.drop 6=aW (c:Int)++q:=gN k4 ln;have k8:x.drop 8=q:=gN k6 lc;have f0:cv x 0=(s:Int):=lA (k:=0) (by omega) k0;have f2:cv x 2=(d:Int):=lA (k:=2) (by omega) k2;have eu:Qc 17 x=(17,(s:Int),(d:Int),0,0,0,0,q):=by unfold Qc;rw[f0,f2,k8]
  unfold nP;rw[eu,hr,show((17:Int)==6)=false from rfl,show((17:Int)==17)=true from rfl,aw (show(x.length:Int)>=8 by omega)];simp only[eY,af,cK,ah,fN]
 |false=>
  rw[h17]at h4;simp only[af,ae,bn,aS]at h4;obtain⟨rfl,h5,h6,h7,h8⟩:=h4;obtain⟨n,rfl⟩:=aA h5.1;obtain⟨m,rfl⟩:=aA h6.1;obtain⟨f,rfl⟩:=aA h7.1;obtain⟨w,rfl⟩:=aA h8.1;obtain⟨y,y',ey,ey'⟩:=abM (x:=80) (y:=f);have ln:=Ko (v:=n);have lm:=Ko (v:=m);have lw:=oN (v:=w);have e:CO a b (6,(s:Int),(d:Int),(n:Int),(m:Int),(f:Int),(w:Int),q)=(aW (s:Int)++(aW (d:Int)++(eo (n:Int)++(eo (m:Int)++([y,y']++aW (w:Int))))))++(aW (c:Int)++(aW ((0:Nat):Int)++q)):=by
   have eb:bare (6,(s:Int),(d:Int),(n:Int),(m:Int),(f:Int),(w:Int),q)=(aW (s:Int)++(aW (d:Int)++(eo (n:Int)++(eo (m:Int)++([y,y']++aW (w:Int))))))++(aW ((0:Nat):Int)++(aW ((0:Nat):Int)++q)):=by show(((((aW (s:Int)++aW (d:Int))++eo (n:Int))++eo (m:Int))++bs2 80 (gX (f:Int)))++aW (w:Int))++eo 0++q=_;rw[ey,<-To];simp only[aE];rfl
   unfold CO;rw[ec,eb];exact UM (k:=16) (by simp only[aj,aV,dg];omega)
  generalize CO a b (6,(s:Int),(d:Int),(n:Int),(m:Int),(f:Int),(w:Int),q)=x at e hr;have hl:x.length=20+q.length:=by rw[e];simp only[aj,aV,dg];omega
  have k0:x.drop 0=aW (s:Int)++(aW (d:Int)++(eo (n:Int)++(eo (m:Int)++([y,y']++(aW (w:Int)++(aW (c:Int)++(aW ((0:Nat):Int)++q))))))):=by rw[eI,e];simp only[aE]
  have k2:=gN k0 ls;have k4:=gN k2 ld;have k8:=gN k4 ln;have k12:x.drop 12=y::y'::(aW (w:Int)++(aW (c:Int)++(aW ((0:Nat):Int)++q))):=gN k8 lm;have k14:x.drop 14=aW (w:Int)++(aW (c:Int)++(aW ((0:Nat):Int)++q)):=kY (kY k12);have k16:x.drop 16=aW (c:Int)++(aW ((0:Nat):Int)++q):=gN k14 lw;have k18:x.drop 18=aW ((0:Nat):Int)++q:=gN k16 lc;have k20:x.drop 20=q:=gN k18 l0;have f0:cv x 0=(s:Int):=lA (k:=0) (by omega) k0;have f2:cv x 2=(d:Int):=lA (k:=2) (by omega) k2;have f4:gn x 4=(n:Int):=BU (k:=4) (by omega) k4;have f8:gn x 8=(m:Int):=BU (k:=8) (by omega) k8;have f13:bR x 13=f:=(rl (kY k12)).trans ey';have f14:cv x 14=(w:Int):=lA (k:=14) (by omega) k14;have eu:Lx 6 x=(6,(s:Int),(d:Int),(n:Int),(m:Int),(f:Int),(w:Int),q):=by unfold Lx;rw[f0,f2,f4,f8,f13,f14,k20]
  unfold nP;rw[eu,hr,show((6:Int)==6)=true from rfl,aw (show(x.length:Int)>=20 by omega)];simp only[cK,ah,fN]
theorem ahT (s:Bytes):∃z,pad s=s++z:=by unfold pad;split;exact⟨_,rfl⟩;exact⟨[],(bB s).symm⟩
theorem aaa {p:aM}(h:cH p=true):ka (cV p).1=(p,0):=by
 have hh:ov p=true:=by simp only[cH,ae]at h;exact h.1
 have hg:=wE hh;have hb:=hh;unfold ov at hb;simp only[ae]at hb;obtain⟨h1,h2,h3,h4,h5,h6,h7,h8,_⟩:=hb;have hlen:=D4 hg;have hbl:=Nl p.2.2.2.2.2.2.2.2;have hk:dD p.2.2.2.2.2.2.2.2.1 0 255=true:=by unfold sA at hg;simp only[ae]at hg;have g4:=hg.2.2.2;cases h17:p.2.2.2.2.2.2.2.2.1==17 with|true=>rw[show p.2.2.2.2.2.2.2.2.1=17 from by simpa using h17];rfl|false=>rw[h17]at g4;simp only[af,ae,bn]at g4;rw[g4.1];rfl
 have hs:EO p.2.2.2.2.2.2.1 p.2.2.2.2.2.2.2.1 p.2.2.2.2.2.2.2.2=true:=by unfold EO yT;rw[hg,h7,h8,hk,aS.2 ⟨by omega,by omega⟩];rfl
 have es:Nh p=(CO p.2.2.2.2.2.2.1 p.2.2.2.2.2.2.2.1 p.2.2.2.2.2.2.2.2,true):=by unfold Nh Ak;rw[hs];rfl
 have hsl:=acE p.2.2.2.2.2.2.1 p.2.2.2.2.2.2.2.1 p.2.2.2.2.2.2.2.2;rw[show Ak p.2.2.2.2.2.2.1 p.2.2.2.2.2.2.2.1 p.2.2.2.2.2.2.2.2=Nh p from rfl,es]at hsl;have hi:Uz (p.2.2.2.1,p.2.2.2.2.1,p.2.2.2.2.2.1,p.2.2.2.2.2.2.2.2.1,p.2.2.2.2.2.2.1,p.2.2.2.2.2.2.2.1,(Nh p).1)=true:=by unfold Uz;simp only[h4,h5,h6,h7,h8,hk,bC,aG];rw[es];show((CO _ _ _).length:Int)<=380;simp only at hsl;omega
 have ei:So p=(Ah (p.2.2.2.1,p.2.2.2.2.1,p.2.2.2.2.2.1,p.2.2.2.2.2.2.2.2.1,p.2.2.2.2.2.2.1,p.2.2.2.2.2.2.2.1,(Nh p).1)++(Nh p).1,true):=by unfold So Ra;rw[hi];rfl
 have hl:=Pj p;have hp:=NB (So p).1;have he:qF (p.1,p.2.1,p.2.2.1,2048,pad (So p).1)=true:=by simp only[qF,ae];refine⟨h1,h2,h3,by decide,by decide,aS.2 ?_⟩;omega
 have em:(cV p).1=Fe (p.1,p.2.1,p.2.2.1,2048,pad (So p).1):=by unfold cV agG T4;rw[h,he];rfl
 have eb:=agH he;obtain⟨z,ez⟩:=ahT (So p).1;have ib:=ajO hi z;have sb:=aic hs;have e1:(So p).1=Ah (p.2.2.2.1,p.2.2.2.2.1,p.2.2.2.2.2.1,p.2.2.2.2.2.2.2.2.1,p.2.2.2.2.2.2.1,p.2.2.2.2.2.2.2.1,(Nh p).1)++(Nh p).1:=by rw[ei]
 rw[<-e1,<-ez]at ib;rw[em];unfold ka;simp only[eb,ib,es,sb,ak,cj,af,show((2048:Int) !=2048)=false from rfl,h]
abbrev CW:=Fw×aM
def QN (m:cg)(k:Nat)(D:az CW):Prop:=∀c∈D,cH c.2=true/\c.1.2.1=((cV c.2).1.length:Int)/\uN m (iq k+128+384*c.1.1.toNat) (cV c.2).1.length=(cV c.2).1
theorem QN.frame {D:az CW}(h:QN m k D)(f:∀c∈D,∀i,iq k+128+384*c.1.1.toNat<=i->i<iq k+512+384*c.1.1.toNat->mB m' i=mB m i):QN m' k D:=λc hc=>by have hi:=oT c.2;exact⟨(h c hc).1,(h c hc).2.1,by rw[yg λj hj=>f c hc _ (by omega) (by omega)];exact(h c hc).2.2⟩
def QD (m:cg)(k:Nat)(q:bt)(p:dy)(D:az CW):Prop:=(∃hd x P F,Fx m k q p hd x P (D.map (·.1)) F)/\QN m k D
theorem QD.ajm {D:az CW}(s:Fx m k q p hd x P (D.map (·.1)) F){c:CW}(hc:c∈D):c.1.1.toNat∈Dt (D.map (·.1)):=by unfold Dt;exact dx.2 ⟨c.1,dx.2 ⟨c,hc,rfl⟩,rfl⟩
theorem QD.frame {D:az CW}(s:QD m k q p D)(h:∀i,iq k<=i->i<iq k+1792->mB m' i=mB m i):QD m' k q p D:=by obtain⟨⟨hd,x,P,F,s⟩,c⟩:=s;refine⟨⟨hd,x,P,F,s.frame λi h1 h2=>h i h1 (by omega)⟩,c.frame λy hy i h1 h2=>h i (by omega) ?_⟩;have:=s.lt (c:=y.1.1.toNat) (by simp only[aE];exact aU _ (QD.ajm s hy));omega
theorem QD.held {D:az CW}(s:QD m k q p D)(u:nr×Bool×Int):QD m k (q.1,q.2.1,q.2.2.1,u) p D:=by obtain⟨⟨hd,x,P,F,s⟩,c⟩:=s;exact⟨⟨hd,x,P,F,s.held u⟩,c⟩
theorem Tf (hm:fJ m)(hk:k<=1){c:Nat}(s:Fx m k q p hd x (c::P) C F)(hq:BK q=true)(hh:q.2.2.2.2.1=true)(key:Bytes)(AK:key.length=16): ∃y:Fw,y.1=(c:Int)/\y.2.1=((cV q.2.2.2.1.1).1.length:Int)/\(gF (bI 38) m 0 q key (iJ (ti k c))).2=(xR (iq k+64) (x+C.length+1),true)/\fJ (gF (bI 38) m 0 q key (iJ (ti k c))).1/\NL (gF (bI 38) m 0 q key (iJ (ti k c))).1 (iq k+64) x (C++[y])/\uN (gF (bI 38) m 0 q key (iJ (ti k c))).1 (iq k+128+384*c) (cV q.2.2.2.1.1).1.length=(cV q.2.2.2.1.1).1/\∀i,i<4864->(i<iq k+64\/iq k+128<=i)->(i<iq k+128+384*c\/iq k+512+384*c<=i)->mB (gF (bI 38) m 0 q key (iJ (ti k c))).1 i=mB m i:=by
 have hc:c<4:=s.lt (by simp);have hl:=s.len;simp only[aV]at hl;have db:=yc (TC hk hc);have r:=(Gm _).1 hq;have hs:=r.held hh;have hi:=oT q.2.2.2.1.1;have hn:iq k=1280+1792*k:=rfl;have pf:=Cb hm (a:=iq k+128+384*c) (s:=(cV q.2.2.2.1.1).1) (w:=true) (by omega) (by omega) (λ_=>by omega);generalize hy:(((c:Int),((cV q.2.2.2.1.1).1.length:Int),q.2.2.2.1.2.1,q.2.2.2.1.2.2,qG key (ng (dP q.2.2.2.1.1))):Fw)=y;have ok:rD y=true:=by rw[<-hy];unfold rD;simp only[ae,aS];have hb:=Wn AK (R7 (dP q.2.2.2.1.1));omega
 have cm:=s.com.frame (m':=(hZ (bI 38) m 0 ((iq k+128+384*c:Nat):Int) (cV q.2.2.2.1.1).1 true).1) λi h1 h2=>by rw[pf.2.2 i (by omega),kz]
 have pc:=SR pf.2.1 (b:=iq k+64) (by omega) cm (by omega) ok;have eA:(ti k c).2.2.2.1=((iq k+128+384*c:Nat):Int):=rfl;have eL:(ti k c).2.2.1=384:=rfl;have eC:(ti k c).2.2.2.2.2=(c:Int):=rfl;have e:gF (bI 38) m 0 q key (iJ (ti k c))=sS (bI 38) (hZ (bI 38) m 0 ((iq k+128+384*c:Nat):Int) (cV q.2.2.2.1.1).1 true).1 0 (xR (iq k+64) (x+C.length)) y:=by rw[Td db.2 rfl (by rw[eL];omega) (by rw[eA];exact pf.1),eA,eC,s.dev,hy]
 rw[e];refine⟨y,by rw[<-hy],by rw[<-hy],pc.1,pc.2.1,pc.2.2.1,P7 λj hj=>?_,λi hi ho ho2=>?_⟩;rw[pc.2.2.2 _ (by omega) (by omega),pf.2.2 _ (by omega),zip,Nat.add_sub_cancel_left];rw[pc.2.2.2 i hi (by omega),pf.2.2 i hi,kz]
def vP (q:bt):az aM:=bif q.2.2.2.2.1 then [q.2.2.2.1.1] else []
def uf (D:az CW)(q:bt):az aM:=D.map (·.2)++vP q
def Adv (e:az aM)(D:az CW)(q:bt)(D':az CW)(q':bt):Prop:=
 (∀w∈uf D' q',cH w=true/\∃v∈uf D q++e,dP v=dP w)/\(q.2.2.2.2.2<q'.2.2.2.2.2\/q'.2.2.2.2.2=q.2.2.2.2.2/\∀f o,Ba f o (uf D' q')=Ba f o (uf D q++e))
theorem Adv.trans {e':az aM}{D D1 D2:az CW}{q1 q2:bt}(a:Adv e D q D1 q1)(b:Adv e' D1 q1 D2 q2):Adv (e++e') D q D2 q2:=by refine⟨λw hw=>?_,?_⟩;obtain⟨h1,v,hv,hf⟩:=b.1 w hw;refine⟨h1,?_⟩;rcases ay.1 hv with g|g;obtain⟨_,u,hu,DH⟩:=a.1 v g;exact⟨u,by rw[<-aE];exact aU _ hu,DH.trans hf⟩;exact⟨v,by rw[<-aE];exact bm _ g,hf⟩;rcases b.2 with g|⟨g1,g2⟩;exact Or.inl (by rcases a.2 with h|⟨h1,h2⟩<;>omega);rcases a.2 with h|⟨h1,h2⟩;exact Or.inl (by rw[g1];exact h);refine Or.inr ⟨g1.trans h1,λf o=>?_⟩;rw[g2,Ce,h2,<-Ce,aE]
theorem Eg {D:az CW}(h:QN m k D):∀w∈D.map (·.2),cH w=true:=by intro w hw;obtain⟨c,hc,rfl⟩:=dx.1 hw;exact(h c hc).1
theorem PN {D:az CW}(h:QN m k D)(hq:xQ n q):∀w∈uf D q,cH w=true:=by intro w hw;rcases ay.1 hw with g|g;exact Eg h w g;unfold vP at g;cases hh:q.2.2.2.2.1 with|false=>rw[hh]at g;cases g|true=>rw[hh]at g;rw[bA.1 g];exact(hq.held hh).1
theorem Adv.same {D:az CW}(h:QN m k D)(hq:xQ n q):Adv [] D q D q:=⟨λw hw=>⟨PN h hq w hw,w,aU _ hw,rfl⟩,Or.inr ⟨rfl,λf o=>by rw[bB]⟩⟩
theorem KJ (hm:fJ m)(hk:k<=1){D:az CW}(s:QD m k q p D)(hN:N<=500000000000)(hq:xQ N q)(key:Bytes)(AK:key.length=16):∃D',QD (fX (bI 38) m 0 q key).1 k (fX (bI 38) m 0 q key).2 p D'/\Adv [] D q D' (fX (bI 38) m 0 q key).2:=by
 have hn:iq k=1280+1792*k:=rfl;have Nx:BK q=true:=(Gm _).2 (hq.mono);obtain⟨⟨hd,x,P,F,s⟩,ct⟩:=s;unfold fX;rw[Nx,AK];cases hh:q.2.2.2.2.1 with
 |false=>exact⟨D,⟨⟨hd,x,P,F,s⟩,ct⟩,Adv.same ct hq⟩
 |true=>
  have hs:=hq.held hh;have el:vP q=[q.2.2.2.1.1]:=by unfold vP;rw[hh];rfl
  simp only[ak,cj,show(((16:Nat):Int) !=16)=false from rfl,af];cases P with
  |nil=>
   have t:=Tj (m:=m) (b:=iq k) (S:=4) (hd:=hd) (Or.inl rfl);have e:br (bI 38) m 0 q.1=([],q.1,false):=by rw[s.ring];exact t
   rw[e];have hd0:=hq.drop;refine⟨D,⟨⟨hd,x,[],F,s.held _⟩,ct⟩,λw hw=>?_,Or.inl ?_⟩;have hw:w∈D.map (·.2)++[]:=hw;rw[bB]at hw;exact⟨Eg ct w hw,w,aU _ (aU _ hw),rfl⟩;show q.2.2.2.2.2<ar (q.2.2.2.2.2+q.2.2.2.1.2.2);rw[al];omega
  |cons c P=>
   have t:=D7 hm (b:=iq k) (S:=4) (Or.inl rfl) (by omega) (show rL m (iq k) 4 hd (iJ (ti k c)::P.map λc=>iJ (ti k c)) from s.row);have e:br (bI 38) m 0 q.1=(iJ (ti k c),fK (iq k) 4 (hd+1) P.length,true):=by rw[s.ring];have:=t.1;rw[cz]at this;exact this
   obtain⟨y,y1,y0,y2,y3,y4,yr,y5⟩:=Tf hm hk s Nx hh key AK;have hc4:c<4:=s.lt (by simp);have nd:=Ik s.perm;rw[aE]at nd;have DE:∀z∈D,z.1.1.toNat≠c:=λz hz e=>(aO.1 nd).2.2 _ (QD.ajm s hz) c (by simp) e;rw[e,y2];simp only[cK,ah];refine⟨D++[(y,q.2.2.2.1.1)],⟨⟨hd+1,x,P,F,⟨rfl,?_,by simp;rfl,s.RS,by rw[cu];exact y4,s.pool,?_,λz hz=>?_⟩⟩,λz hz=>?_⟩,λw hw=>?_,Or.inr ⟨rfl,λf o=>?_⟩⟩;exact t.2.frame (Or.inl rfl) λi h1 h2=>y5 i (by omega) (by omega) (by omega);refine List.Perm.trans ?_ s.perm;have ey:y.1.toNat=c:=by rw[y1];simp
   simp only[Dt,cu,cS,List.map_nil,ey,aE,ik,bX];exact List.Perm.refl _;rw[cu]at hz;rcases ay.1 hz with g|g;exact s.cok z g;rw[bA.1 g];show 0<=y.1;rw[y1];omega;rcases ay.1 hz with g|g;have c0:=ct z g;have:=oT z.2;have lt:=s.lt (c:=z.1.1.toNat) (by simp only[aE];exact aU _ (QD.ajm s g));have ne:=DE z g;exact⟨c0.1,c0.2.1,(yg λj hj=>y5 _ (by omega) (by omega) (by omega)).trans c0.2.2⟩;rw[bA.1 g];refine⟨hs.1,y0,?_⟩;have ey:y.1.toNat=c:=by rw[y1];simp
   show uN _ (iq k+128+384*y.1.toNat) _=_;rw[ey];exact yr;have hw:w∈(D++[(y,q.2.2.2.1.1)]).map (·.2)++[]:=hw;rw[bB,cu]at hw;have hw:w∈uf D q:=by unfold uf;rw[el];exact hw
   exact⟨PN ct hq w hw,w,aU _ hw,rfl⟩;show Ba f o ((D++[(y,q.2.2.2.1.1)]).map (·.2)++[])=Ba f o (uf D q++[]);unfold uf;rw[el,bB,bB,cu];rfl
theorem OH (l:az aH)(m:cg)(q:bt)(key:Bytes)(hq:BK q=true)(AK:key.length=16):(fX l m 0 q key).2.2.2.2.2.1=false:=by unfold fX;rw[hq,AK];cases hh:q.2.2.2.2.1 with|false=>exact hh|true=>simp only[ak,cj,show(((16:Nat):Int) !=16)=false from rfl,af];cases (br l m 0 q.1).2.2&&(gF l m 0 q key (br l m 0 q.1).1).2.2<;>rfl
theorem ag3 {D:az CW}(s:QD m k q p D)(hq:xQ N q)(hh:q.2.2.2.2.1=false){w:aM}(hw:gb w=true):QD m k (DG q (jc w)) p D/\Adv [w] D q D (DG q (jc w)):=by
 refine⟨s.held _,λv hv=>?_,Or.inr ⟨rfl,λf o=>?_⟩⟩;have el:vP q=[]:=by unfold vP;rw[hh];rfl
 have hv:v∈D.map (·.2)++[w]:=hv;rcases ay.1 hv with g|g;exact⟨Eg s.2 v g,v,aU _ (aU _ g),rfl⟩;rw[bA.1 g];exact⟨(D5 hw).1,w,by simp,rfl⟩;have el:vP q=[]:=by unfold vP;rw[hh];rfl
 show Ba f o (D.map (·.2)++[w])=Ba f o (uf D q++[w]);unfold uf;rw[el,bB]
theorem ad2 {s:nr}{p:aM}(h:Fs s p=true):dP (ue s p).1=dP s.1:=by unfold ue;rw[h];rfl
theorem YU (hm:fJ m)(hk:k<=1){D:az CW}(s:QD m k q p D)(hN:N<=400000000000)(hq:xQ N q)(key:Bytes)(AK:key.length=16){w:aM}(hw:gb w=true)(c:Bool):∃D',QD (je (bI 38) m 0 q key w c).1 k (je (bI 38) m 0 q key w c).2 p D'/\Adv [w] D q D' (je (bI 38) m 0 q key w c).2:=by
 have Nx:BK q=true:=(Gm _).2 (hq.mono);have ml:fJ m:=hm;unfold je;rw[Nx,AK,hw];simp only[ak,cj,show(((16:Nat):Int) !=16)=false from rfl,af];cases hj:c&&(q.2.2.2.2.1&&Fs q.2.2.2.1 w)with
 |true=>
  simp only[ae]at hj;have fj:=afq hj.2.2;have el:vP q=[q.2.2.2.1.1]:=by unfold vP;rw[hj.2.1];rfl
  have sj:cH (ue q.2.2.2.1 w).1=true/\dP (ue q.2.2.2.1 w).1=dP q.2.2.2.1.1:=⟨(acp hj.2.2).1,ad2 hj.2.2⟩
  have el2:vP (q.1,q.2.1,q.2.2.1,ue q.2.2.2.1 w,q.2.2.2.2)=[(ue q.2.2.2.1 w).1]:=by unfold vP;simp only[hj.2.1];rfl
  refine⟨D,s.held _,λv hv=>?_,Or.inr ⟨rfl,λf o=>?_⟩⟩;have hv:v∈D.map (·.2)++vP (q.1,q.2.1,q.2.2.1,ue q.2.2.2.1 w,q.2.2.2.2):=hv;rw[el2]at hv;rcases ay.1 hv with g|g;exact⟨Eg s.2 v g,v,aU _ (aU _ g),rfl⟩;rw[bA.1 g];exact⟨sj.1,q.2.2.2.1.1,by unfold uf;rw[el];simp,sj.2.symm⟩;show Ba f o (D.map (·.2)++vP (q.1,q.2.1,q.2.2.1,ue q.2.2.2.1 w,q.2.2.2.2))=Ba f o ((D.map (·.2)++vP q)++[w]);rw[el2,el,Ce,Ce,Ce];exact(fj f _).symm
 |false=>simp only[af];obtain⟨D1,s1,a1⟩:=KJ hm hk s (by omega) hq key AK;have fr:=OH (bI 38) m q key Nx AK;have k1:=(BT (by omega) hq hm.ok (bI 38) 0 key).2;obtain⟨s2,a2⟩:=ag3 s1 k1 fr hw;obtain⟨⟨hd,x,P,F,s0⟩,_⟩:=s;obtain⟨_,_,fl⟩:=BS hm hk s0 Nx key AK;have f0:=fl.mem;cases c with|true=>exact⟨D1,s2,a1.trans a2⟩|false=>have so:=D5 hw;have k2:=Nv k1 so.1 so.2.1 so.2.2;obtain⟨D3,s3,a3⟩:=KJ f0 hk s2 (by omega) k2 key AK;exact⟨D3,s3,(a1.trans a2).trans a3⟩
theorem aeK (hm:fJ m)(hk:k<=1){c:CW}{D:az CW}(r:Fx m k s.2.1 s.2.2 hd x P (c.1::D.map (·.1)) F)(ct:QN m k (c::D)):(vX (bI 38) m 0 s).1=jx s.1 c.2:=by
 have hn:iq k=1280+1792*k:=rfl;have nx:=La hm (b:=iq k+64) (by omega) r.com;have en:lM (bI 38) m 0 s.2.1.2.2.1=(c.1,xR (iq k+64) (x+1),true):=by rw[r.RS];exact nx.1
 have hc:((c.1.1.toNat:Nat):Int)=c.1.1:=Int.toNat_of_nonneg (r.cok c.1 (by simp));have lt:c.1.1.toNat<4:=r.lt (by simp[Dt]);have hp:=r.XE hk;rw[r.pool]at hp;have ba:=abO hk hp lt;rw[hc]at ba;have c0:=ct c List.mem_cons_self;have hi:=oT c.2;have d:=IZ hm (a:=iq k+128+384*c.1.1.toNat) (r:=(cV c.2).1.length);rw[c0.2.2]at d;unfold vX;rw[en];simp only;rw[r.pool,ba,c0.2.1];unfold ajt;rw[d,aaa c0.1];rfl
theorem SO (hm:fJ m)(hk:k<=1):∀(n:Nat)(s:az Stream×bt×dy)(x:Nat)(D:az CW)(F:gk),Fx m k s.2.1 s.2.2 hd x P (D.map (·.1)) F->QN m k D->(jf (bI 38) m 0 n s).2.1=((D.take n).map (·.2)).foldl jx s.1
 |0,s,x,D,F,r,_=>by rw[List.take_zero];rfl
 |n+1,s,x,[],F,r,_=>by
  have hn:iq k=1280+1792*k:=rfl;have nx:=Lb hm (b:=iq k+64) (by omega) r.com;have en:(lM (bI 38) m 0 s.2.1.2.2.1).2.2=false:=by rw[r.RS,nx]
  rw[jf,en];rfl
 |n+1,s,x,c::D,F,r,ct=>by have ps:=PV hm hk r;have pc:=aeK hm hk r ct;have ih:=SO hm hk n (vX (bI 38) m 0 s) (x+1) D _ ps.2.1 λy hy=>ct y (dZ _ hy);rw[jf,ps.1];simp only[ak,af];rw[ih,pc];rfl
theorem ahY (hm:fJ m)(hk:k<=1){D:az CW}(s:QD m k q p D)(hq:BK q=true)(st:az Stream){b:Nat}(hb:b<=1000): QD (gU (bI 38) m 0 q p st (b:Int)).1 k (gU (bI 38) m 0 q p st (b:Int)).2.1 (gU (bI 38) m 0 q p st (b:Int)).2.2.1 (D.drop b)/\(gU (bI 38) m 0 q p st (b:Int)).2.2.2.1=((D.take b).map (·.2)).foldl jx st/\(gU (bI 38) m 0 q p st (b:Int)).2.1.2.2.2=q.2.2.2:=by obtain⟨⟨hd,x,P,F,s⟩,ct⟩:=s;have hp:=s.XE hk;have pl:=Io hm hk b (st,q,p) x _ F s;have pc:=SO hm hk b (st,q,p) x D F s ct;have pf:=Ll hm hk s hq st hb;obtain⟨l1,l2,F',sf⟩:=pl;obtain⟨f1,⟨x',P',f2⟩,f3,f4,f5⟩:=pf;refine⟨⟨⟨hd,x',P',[],by rw[List.map_drop];exact f2⟩,QN.frame (m:=m) (λy hy=>ct y (List.mem_of_mem_drop hy)) λy hy i h1 h2=>f5 i ?_ (by omega)⟩,?_,?_⟩;have:=s.lt (c:=y.1.1.toNat) (by simp only[aE];exact aU _ (QD.ajm s (List.mem_of_mem_drop hy)));unfold iq at h1 h2;omega;unfold gU;rw[hq,hp,aS.2 ⟨by omega,by omega⟩];simp only[ak,bJ,af,ax];exact pc;unfold gU;rw[hq,hp,aS.2 ⟨by omega,by omega⟩];simp only[ak,bJ,af,ax];exact l2
theorem Sv:∀(l:az aM)(s:az Stream)(f:zW),(∀w∈l,cH w=true)->jF (l.foldl jx s) f=Ba f (jF s f) l
 |[],s,f,_=>rfl
 |w::l,s,f,h=>by rw[List.foldl_cons,Sv l _ f λv hv=>h v (dZ _ hv),Sw (h w List.mem_cons_self),S3]
abbrev Fl:=zW
variable {qf:Fl->Nat}
def am2 (Q:az CW->bt->Prop)(h:Host)(k:Nat):Prop:=∃q p D,h.2.2.2.1[k]?=some q/\h.2.2.2.2.1[k]?=some p/\QD h.1 k q p D/\Q D q
def Con (Q:Nat->az CW->bt->Prop)(h:Host):Prop:=∀k,k<h.2.2.2.1.length->am2 (Q k) h k
theorem Con.step {Q Q':Nat->az CW->bt->Prop}(f:Con Q h)(h2:h.2.2.2.1.length<=2)(hk:k<h.2.2.2.1.length)(e3:h'.2.2.2.1.length=h.2.2.2.1.length)(hq:∀j,j≠k->h'.2.2.2.1[j]?=h.2.2.2.1[j]?/\h'.2.2.2.2.1[j]?=h.2.2.2.2.1[j]?)(out:∀i,i<4864->(i<iq k\/iq k+1792<=i)->mB h'.1 i=mB h.1 i)(hQ:∀j,j≠k->∀D q,Q j D q->Q' j D q)(hF:am2 (Q' k) h' k):Con Q' h':=by intro j hj;by_cases M3:j=k;subst M3;exact hF;rw[e3]at hj;have hn:iq k=1280+1792*k:=rfl;have hj2:iq j=1280+1792*j:=rfl;obtain⟨q,p,D,g1,g2,g3,g4⟩:=f j hj;have e:=hq j M3;exact⟨q,p,D,by rw[e.1];exact g1,by rw[e.2];exact g2,g3.frame λi h1 h2=>out i (by omega) (by omega),hQ j M3 D q g4⟩
theorem Con.same {Q Q':Nat->az CW->bt->Prop}(f:Con Q h)(h2:h.2.2.2.1.length<=2)(e3:h'.2.2.2.1=h.2.2.2.1)(e4:h'.2.2.2.2.1=h.2.2.2.2.1)(out:∀i,i<4864->1280<=i->mB h'.1 i=mB h.1 i)(hQ:∀j D q,Q j D q->Q' j D q):Con Q' h':=by intro j hj;rw[e3]at hj;have hj2:iq j=1280+1792*j:=rfl;obtain⟨q,p,D,g1,g2,g3,g4⟩:=f j hj;exact⟨q,p,D,by rw[e3];exact g1,by rw[e4];exact g2,g3.frame λi h1 h2=>out i (by omega) (by omega),hQ j D q g4⟩
def Dh (h:Host):az Stream:=h.2.2.2.2.2.2.2.2.2.1
def PQ (B:Nat->Int)(qf:Fl->Nat)(o Z:Fl->aC Stream)(k:Nat)(D:az CW)(q:bt):Prop:=
 (∀w∈uf D q,cH w=true/\qf (dP w)=k)/\B k<=q.2.2.2.2.2/\(B k<q.2.2.2.2.2\/∀f,qf f=k->Ba f (o f) (uf D q)=Z f)
def mZ (B:Nat->Int)(qf:Fl->Nat)(Z:Fl->aC Stream)(h:Host):Prop:=Con (PQ B qf (jF (Dh h)) Z) h
theorem PQ.adv {B:Nat->Int}{o Z:Fl->aC Stream}{D D':az CW}{q':bt}(a:PQ B qf o Z k D q)(he:∀w∈e,qf (dP w)=k)(b:Adv e D q D' q'):PQ B qf o (λf=>Ba f (Z f) e) k D' q':=by refine⟨λw hw=>?_,by have:=a.2.1;rcases b.2 with g|g<;>omega,?_⟩;obtain⟨h1,v,hv,hf⟩:=b.1 w hw;refine⟨h1,?_⟩;rw[<-hf];rcases ay.1 hv with g|g;exact(a.1 v g).2;exact he v g;rcases b.2 with g|⟨g1,g2⟩;exact Or.inl (by have:=a.2.1;omega);rcases a.2.2 with h|h;exact Or.inl (by rw[g1];exact h);refine Or.inr λf hf=>?_;rw[g2,Ce,h f hf]
theorem V8 {B:Nat->Int}{Z:Fl->aC Stream}(f:mZ B qf Z h)(h2:h.2.2.2.1.length<=2)(hk:k<h.2.2.2.1.length)(hv:h.2.2.2.2.2.1[k]?=some v)(he:∀w∈e,qf (dP w)=k){g:cg×bt}(out:∀i,i<4864->(i<iq k\/iq k+1792<=i)->mB g.1 i=mB h.1 i)(hG:∀q p D,h.2.2.2.1[k]?=some q->QD h.1 k q p D->∃D',QD g.1 k g.2 p D'/\Adv e D q D' g.2):mZ B qf (λf=>Ba f (Z f) e) (uq h k b g):=by
 have KR:(DX h k g).2.2.2.2.2.1[k]?=some v:=hv;have ew:∃n,uq h k b g=(g.1,h.2.1,h.2.2.1,h.2.2.2.1.set k g.2,h.2.2.2.2.1,h.2.2.2.2.2.1.set k (evN n v),h.2.2.2.2.2.2):=⟨_,by unfold uq;rw[Oo KR];rfl⟩
 obtain⟨n,ew⟩:=ew;obtain⟨q,p,D,g1,g2,g3,g4⟩:=f k hk;obtain⟨D',g5,g6⟩:=hG q p D g1 g3;rw[ew];refine Con.step (Q:=PQ B qf (jF (Dh h)) Z) f h2 hk (aD ..) (λj hj=>⟨aF (cd hj),rfl⟩) out (λj hj D q hQ=>⟨hQ.1,hQ.2.1,?_⟩) ⟨g.2,p,D',bq hk,g2,g5,g4.adv he g6⟩;rcases hQ.2.2 with hz|hz;exact Or.inl hz;refine Or.inr λf hf=>?_;show Ba f (jF (Dh h) f) (uf D q)=Ba f (Z f) e;rw[hz f hf,UW e (Z f) λw hw e0=>hj (by rw[<-hf,<-e0];exact he w hw)]
theorem V7 (hn:n<=500000000000)(g:Good n h)(l:Live Q h){B:Nat->Int}{Z:Fl->aC Stream}(f:mZ B qf Z h)(hk:k<h.2.2.2.1.length):mZ B qf Z (fC k h):=by
 have h2:=qC g;obtain⟨q,p,v,b,g1,g2,g3,g4,hd,x,P,C,F,s,w1,w2,w3,_⟩:=l.rx k hk;have rx:=g.rx q (aQ g1);have e:fC k h=uq h k q.2.1.2.2 (fX (bI 38) h.1 0 q h.2.2.2.2.2.2.2.2.1.2.2.1):=by unfold fC;rw[g1,l.maps]
 obtain⟨_,_,fl⟩:=BS l.mem (by omega) s (rx.rx (by omega)) _ (AX g);rw[e];refine V8 f h2 hk g3 (e:=[]) (λw hw=>by cases hw) fl.out λq' p' D Nx hD=>?_;rw[g1]at Nx;have Nx:=bQ Nx;subst Nx;exact KJ l.mem (by omega) hD hn rx _ (AX g)
theorem ZU (hn:n<=400000000000)(g:Good n h)(l:Live Q h){B:Nat->Int}{Z:Fl->aC Stream}(f:mZ B qf Z h):mZ B qf Z (ko h):=by
 have h2:=qC g;have key:∀k:Nat,k<=h.2.2.2.1.length->Good (n+320*(k:Int)) (eQ fC k h)/\(eQ fC k h).2.2.2.1.length=h.2.2.2.1.length/\Live zw (eQ fC k h)/\mZ B qf Z (eQ fC k h):=by intro k;induction k with|zero=>intro _;exact⟨g.mono,rfl,l.xU λ_ _ _ _ _ _ _=>trivial,f⟩|succ k ih=>intro hk;obtain⟨i1,i2,i3,i4⟩:=ih (by omega);have st:=F9 (by omega) i1 i3 (k:=k);have gl:=CD (by omega) i1 k;have e2:(fC k (eQ fC k h)).2.2.2.1.length=(eQ fC k h).2.2.2.1.length:=(pX k _).rx;exact⟨gl.mono (by push_cast;omega),e2.trans i2,st.xU λ_ _ _ _ _ _ _=>trivial,V7 (by omega) i1 i3 i4 (by omega)⟩
 unfold ko;rw[g.ok (by omega),ah];exact(key h.2.2.2.1.length (aX _)).2.2.2
def aii (fl:Filter)(st:dj)(n:Int)(Z:Fl->aC Stream)(y:Bytes):Fl->aC Stream:=
 bif ((eO y).2==0)&&(kK fl (eO y).1&&(iS st n (eO y).1 != -1)) then λf=>EZ f (Z f) (eO y).1 else Z
theorem XO {y:Bytes}(h:((eO y).2==0)=true):gb (eO y).1=true:=by
 cases hp:gb (eO y).1 with
 |true=>rfl
 |false=>
  unfold eO at h hp;cases hc:(zY y).2 with|false=>simp only[hc,cl,ah]at h;cases h|true=>?_
  simp only[hc,ak,af]at h hp;cases hr:(ka (zY y).1).2 !=0 with|true=>simp only[hr,ah]at h;unfold bne at hr;rw[h]at hr;cases hr|false=>simp only[hr,af]at h hp;cases hk:gb (ka (zY y).1).1 with|false=>simp only[hk,cl,ah]at h;cases h|true=>simp only[hk,ak,af]at hp;cases hp
theorem Ua (hn:n<=400000000000)(g:Good n h)(l:Live Q h){B:Nat->Int}{Z:Fl->aC Stream}(f:mZ B qf Z h)(y:Bytes)(hqf:cH (eO y).1=true->iS h.2.2.2.2.2.2.2.2.1 (h.2.2.2.1.length:Int) (eO y).1≠ -1->(iS h.2.2.2.2.2.2.2.2.1 (h.2.2.2.1.length:Int) (eO y).1).toNat=qf (dP (eO y).1)):mZ B qf (aii h.2.2.2.2.2.2.2.1 h.2.2.2.2.2.2.2.2.1 (h.2.2.2.1.length:Int) Z y) (gV h y):=by
 have h2:=qC g;have BA:∀a b c d,mZ B qf Z (oR h a b c d):=λa b c d=>Con.same (h':=oR h a b c d) f h2 rfl rfl (λ_ _ _=>rfl) λ_ _ _ hQ=>hQ;have lc:∀a b c d,Live zw (oR h a b c d):=λa b c d=>(l.xU λ_ _ _ _ _ _ _=>trivial).same (h':=oR h a b c d) l.mem rfl rfl rfl rfl rfl l.tx (λ_ _ _=>rfl) h2;unfold gV aii;rw[g.ok (by omega)];simp only[ak,af];cases he:(eO y).2 !=0 with
 |true=>rw[show((eO y).2==0)=false from by simpa[bne]using he];exact BA _ _ _ _
 |false=>
  have he0:((eO y).2==0)=true:=by simpa[bne]using he
  have pk:=XO he0;rw[he0];cases ha:kK h.2.2.2.2.2.2.2.1 (eO y).1;exact BA _ _ _ _;cases hs:iS h.2.2.2.2.2.2.2.2.1 (h.2.2.2.1.length:Int) (eO y).1== -1 with
  |true=>rw[show(iS h.2.2.2.2.2.2.2.2.1 (h.2.2.2.1.length:Int) (eO y).1 != -1)=false from by unfold bne;rw[hs];rfl];exact BA _ _ _ _
  |false=>
   rw[show(iS h.2.2.2.2.2.2.2.2.1 (h.2.2.2.1.length:Int) (eO y).1 != -1)=true from by unfold bne;rw[hs];rfl];simp only[ak,af,cK,ah];have sup:cH (eO y).1=true:=by simp only[gb,ae]at pk;exact pk.1
   have ne:iS h.2.2.2.2.2.2.2.2.1 (h.2.2.2.1.length:Int) (eO y).1≠ -1:=by simpa using hs
   have hk:=hqf sup ne;rcases LF (s:=h.2.2.2.2.2.2.2.2.1) (q:=(h.2.2.2.1.length:Int)) (p:=(eO y).1)with e|⟨k,e,iz⟩;exact absurd e ne;rw[e,ax]at hk⊢;have hkl:k<h.2.2.2.1.length:=by omega
   rw[aq hkl];simp only;obtain⟨q,p,v,b,g1,g2,g3,g4,hd,x,P,C,F,s,w1,w2,w3,_⟩:=l.rx k hkl;have e1:h.2.2.2.1[k]=q:=by rw[aq hkl]at g1;exact bQ g1
   rw[e1,l.maps];have rx:=g.rx q (aQ g1);obtain⟨_,_,_,fl⟩:=LN l.mem (by omega) s (by omega) rx h.2.2.2.2.2.2.2.2.1.2.2.1 (AX g) (eO y).1 h.2.2.2.2.2.2.2.2.2.2.1;exact V8 (BA h.2.2.2.2.2.2.2.2.2.2.2.2.2.2.2.1 h.2.2.2.2.2.2.2.2.2.2.2.2.2.2.2.2.1 h.2.2.2.2.2.2.2.2.2.2.2.2.2.2.2.2.2.1 (ar (h.2.2.2.2.2.2.2.2.2.2.2.2.2.2.2.2.2.2+1))) h2 hkl g3 (e:=[(eO y).1]) (λw hw=>by rw[bA.1 hw];exact hk.symm) fl.out λq' p' D Nx hD=>by have Nx:h.2.2.2.1[k]?=some q':=Nx;rw[g1]at Nx;have Nx:=bQ Nx;subst Nx;exact YU l.mem (by omega) hD hn rx _ (AX g) pk _
theorem aec (g:Good n h)(f:Live Q h)(p:aM)(c z:Int):Live Q (AE h p c z).1:=by obtain⟨hd,L,s⟩:=f.tx;obtain⟨a,⟨L',b⟩,c'⟩:=aeZ f.mem s g.tx p c z;unfold AE;cases fb h with|false=>exact f|true=>rw[f.maps];exact f.same a f.maps.symm rfl rfl rfl rfl ⟨hd,L',b⟩ c' (qC g)
theorem yR (hn:n<=1000000000000)(g:Good n h)(f:Live Q h):Live Q (dv h)/\(dv h).2.2.1.2.2.1=[]:=by
 obtain⟨hd,L,s⟩:=f.tx;obtain⟨a,GU,b⟩:=Ry g hn f.maps f.mem s;refine⟨?_,a⟩;have e1:(dv h).1=h.1:=by unfold dv;rw[g.ok hn];rfl
 have e2:(dv h).2.1=h.2.1:=by unfold dv;rw[g.ok hn];rfl
 have e3:(dv h).2.2.2.1=h.2.2.2.1:=by unfold dv;rw[g.ok hn];rfl
 have e4:(dv h).2.2.2.2.1=h.2.2.2.2.1:=by unfold dv;rw[g.ok hn];rfl
 have e5:(dv h).2.2.2.2.2.1=h.2.2.2.2.2.1:=by unfold dv;rw[g.ok hn];rfl
 have e6:(dv h).2.2.2.2.2.2.1=h.2.2.2.2.2.2.1:=by unfold dv;rw[g.ok hn];rfl
 exact f.same (by rw[e1];exact f.mem) e2 e3 e4 e5 e6 ⟨GU,[],by rw[e1];exact b⟩ (λi _ _=>by rw[e1]) (qC g)
theorem MO (hv:dW v=true):(zT v).1=v.1/\(zT v).2.1=v.2.1/\(zT v).2.2.1=v.2.2.1/\(zT v).2.2.2.2.1=v.2.2.2.2.1/\(1<=v.2.2.1->v.2.2.2.2.1=false->(zT v).2.2.2.2.2=true\/v.2.2.2.1+1<=(zT v).2.2.2.1/\(zT v).2.2.2.1<v.2.1):=by
 have w:=(uc v).1 hv;have vt:=QA hv;unfold zT at vt⊢;rw[hv]at vt⊢;simp only[ah]at vt⊢;by_cases h:v.2.2.1>0;rw[aw h]at vt⊢;simp only[ah]at vt⊢;have c:=AG (v.1,v.2.1,v.2.2.1,NJ v.2.2.2.1,v.2.2.2.2);refine⟨c.1,c.2.1,c.2.2.1,c.2.2.2.2,λ_ hm=>?_⟩;have eu:NJ v.2.2.2.1=v.2.2.2.1+1\/NJ v.2.2.2.1=1000000:=by unfold NJ;rw[al];split<;>omega
 have t3:(uh (v.1,v.2.1,v.2.2.1,NJ v.2.2.2.1,v.2.2.2.2)).2.2.2.1=NJ v.2.2.2.1:=c.2.2.2.1;cases hd:Ei (v.1,v.2.1,v.2.2.1,NJ v.2.2.2.1,v.2.2.2.2)with
 |true=>left;unfold uh;rw[hd,hm];rfl
 |false=>
  right;have nd:¬(1<=v.2.2.1/\(v.1<=v.2.2.1\/v.2.1<=NJ v.2.2.2.1)):=by rw[<-Ej (v.1,v.2.1,v.2.2.1,NJ v.2.2.2.1,v.2.2.2.2),hd];simp
  rw[t3];omega
 rw[au h]at vt⊢;simp only[af]at vt⊢;have c:=AG v;exact⟨c.1,c.2.1,c.2.2.1,c.2.2.2.2,λh1=>by omega⟩
theorem aaF (g:Good n h){B:Nat->az Fw->bt->Vector->Bool->Prop}(f:Live Q h)(hk:k<h.2.2.2.1.length)(hB:∀C q v b,dW v=true->v.2.1<=3->v.2.2.2.2.1=b->(b=false->C≠[]->1<=v.2.2.1)->Q k C q v b->B k C q (zT v) b):Live (λj C q v b=>(j=k->B k C q v b)/\(j≠k->Q j C q v b)) (jg k h):=by
 obtain⟨q,p,v,b,g1,g2,g3,g4,hd,x,P,C,F,s,w1,w2,w3,w4⟩:=f.rx k hk;have hv:=g.vec v (aQ g3);have ts:=MO hv;obtain⟨hvl,_⟩:=aB.1 g3;have e:jg k h=(h.1,h.2.1,h.2.2.1,h.2.2.2.1,h.2.2.2.2.1,h.2.2.2.2.2.1.set k (zT v),h.2.2.2.2.2.2):=by unfold jg;rw[g3]
 rw[e];refine Live.step (Q:=Q) (Q':=λj C q v b=>(j=k->B k C q v b)/\(j≠k->Q j C q v b)) f hk (qC g) f.mem rfl rfl rfl (λj hj=>⟨rfl,rfl,aF (cd hj),rfl⟩) (λ_ _ _=>rfl) (λj hj C q v b hA=>⟨λe=>absurd e hj,λ_=>hA⟩) ?_;exact⟨q,p,zT v,b,g1,g2,bq hvl,g4,hd,x,P,C,F,s,by rw[ts.2.1];exact w1,by rw[ts.2.2.2.1];exact w2,λe1 e2=>by rw[ts.2.2.1];exact w3 e1 e2,λ_=>hB C q v b hv w1 w2 w3 w4,λe=>absurd rfl e⟩
theorem Z0 (g:Good n h)(k:Nat):Good n (jg k h):=by unfold jg;cases hv:h.2.2.2.2.2.1[k]? with|none=>exact g|some v=>exact⟨g.mem,g.maps,g.tx,g.Hk,by have:=g.lens;unfold po at this⊢;rw[aD];exact this,g.Ke,g.rx,g.pool,tf g.vec (QA (g.vec v (aQ hv))),g.BA⟩
theorem K2 (hn:n<=1000000000000)(g:Good n h){B:Nat->az Fw->bt->Vector->Bool->Prop}(f:Live Q h)(hB:∀k C q v b,dW v=true->v.2.1<=3->v.2.2.2.2.1=b->(b=false->C≠[]->1<=v.2.2.1)->Q k C q v b->B k C q (zT v) b):Live B (sv h):=by
 have hl:=nM g.lens;have key:∀k:Nat,k<=h.2.2.2.1.length->Good n (eQ jg k h)/\(eQ jg k h).2.2.2.1.length=h.2.2.2.1.length/\Live (λj C q v b=>(j<k->B j C q v b)/\(¬j<k->Q j C q v b)) (eQ jg k h):=by intro k;induction k with|zero=>intro _;exact⟨g,rfl,f.xU λk _ C q v b hA=>⟨λe=>by omega,λ_=>hA⟩⟩|succ k ih=>intro hk;obtain⟨i1,i2,i3⟩:=ih (by omega);have st:=aaF (B:=B) i1 i3 (k:=k) (by omega) (λC q v b a1 a2 a3 a4 hA=>hB k C q v b a1 a2 a3 a4 (hA.2 (by omega)));refine⟨Z0 i1 k,((yw k _).rx).trans i2,st.xU λj hj C q v b hA=>⟨λM3=>?_,λM3=>?_⟩⟩;by_cases h1:j=k;subst h1;exact hA.1 rfl;exact(hA.2 h1).1 (by omega);exact(hA.2 (by omega)).2 (by omega)
 unfold sv;rw[g.ok hn,ah,hl.2.2.1];obtain⟨i1,i2,i3⟩:=key h.2.2.2.1.length (aX _);exact i3.xU λj hj C q v b hA=>hA.1 (by omega)
theorem Ym (hv:dW v=true):(re v).1.2.1=v.2.1/\(re v).2=v.2.2.2.2.2/\(v.2.2.2.2.2=true->(re v).1.2.2.2.2.1=true)/\(v.2.2.2.2.2=false->(re v).1=v):=by unfold re;rw[hv];cases hr:v.2.2.2.2.2 with|true=>exact⟨rfl,rfl,λ_=>rfl,λe=>by cases e⟩|false=>exact⟨rfl,rfl,λe=>(by cases e),λ_=>rfl⟩
theorem Rz (hv:dW v=true):(Bu v).2.1=v.2.1/\(Bu v).2.2.2.2.1=false:=by unfold Bu;rw[hv,ah];have c:=AG (v.1,v.2.1,v.2.2.1,v.2.2.2.1,false,v.2.2.2.2.2);exact⟨c.2.1,c.2.2.2.2⟩
theorem Mf (hn:n<=1000000000000)(t:Int)(g:Good n h){B:Nat->az Fw->bt->Vector->Bool->Prop}(f:Live Q h)(hk:k<h.2.2.2.1.length){c:Nat}(hc:1<=c/\c<=1000)(hB:∀C q v b q' v' b',dW v=true->v.2.1<=3->v.2.2.2.2.1=b->(b=false->C≠[]->1<=v.2.2.1)->q'.2.2.2.2.1=q.2.2.2.2.1->Q k C q v b-> ((b=false/\v.2.2.2.2.2=false->b'=false->v'=v->B k C q' v' b')/\(b=true\/v.2.2.2.2.2=true->C.length<c->b'=false->B k [] q' v' b')/\(b=true\/v.2.2.2.2.2=true->¬C.length<c->b'=true->B k (C.drop c) q' v' b'))):Live (λj C q v b=>(j=k->B k C q v b)/\(j≠k->Q j C q v b)) (vJ (c:Int) k (t,h)).2:=by
 have Eb:iq k=1280+1792*k:=rfl;have h2:=qC g;obtain⟨q,p,v,b,g1,g2,g3,g4,hd,x,P,C,F,s,w1,w2,w3,w4⟩:=f.rx k hk;have hv:=g.vec v (aQ g3);have tv:=Ym hv;have vt:=Yt hv;have rq:=(g.rx q (aQ g1)).rx hn;obtain⟨m1,⟨x',P',s'⟩,m3,m4,m5⟩:=Ll f.mem (by omega) s rq h.2.2.2.2.2.2.2.2.2.1 (b:=c);obtain⟨hql,_⟩:=aB.1 g1;obtain⟨Er,_⟩:=aB.1 g2;obtain⟨hvl,_⟩:=aB.1 g3;obtain⟨hbl,_⟩:=aB.1 g4;unfold vJ;simp only[g1,g2,g3,g4,f.maps];generalize hR:gU (bI 38) h.1 0 q p h.2.2.2.2.2.2.2.2.2.1 (c:Int)=R at m1 s' m3 m4 m5;cases hpt:b||(re v).2 with
 |false=>
  simp only[cn]at hpt;have hr:v.2.2.2.2.2=false:=by rw[<-tv.2.1];exact hpt.2
  have ev:=tv.2.2.2 hr;simp only[af];refine Live.step (Q:=Q) (Q':=λj C q v b=>(j=k->B k C q v b)/\(j≠k->Q j C q v b)) f hk h2 f.mem f.maps.symm rfl rfl (λj hj=>⟨rfl,rfl,aF (cd hj),aF (cd hj)⟩) (λ_ _ _=>rfl) (λj hj C q v b hA=>⟨λe=>absurd e hj,λ_=>hA⟩) ?_;refine⟨q,p,(re v).1,false,g1,g2,bq hvl,bq hbl,hd,x,P,C,F,s,by rw[ev];exact w1,by rw[ev,w2];exact hpt.1,λ_ e2=>by rw[ev];exact w3 hpt.1 e2,λ_=>?_,λe=>absurd rfl e⟩;exact(hB C q v b q (re v).1 false hv w1 w2 w3 rfl w4).1 ⟨hpt.1,hr⟩ rfl ev
 |true=>
  simp only[cJ]at hpt;have hpt:b=true\/v.2.2.2.2.2=true:=by rw[<-tv.2.1];exact hpt
  have msk:(re v).1.2.2.2.2.1=true:=by cases hr:v.2.2.2.2.2 with|true=>exact tv.2.2.1 hr|false=>rw[tv.2.2.2 hr,w2];rcases hpt with e|e;exact e;rw[hr]at e;cases e
  simp only[ah,m3];have um:=Rz vt;refine Live.step (Q:=Q) (Q':=λj C q v b=>(j=k->B k C q v b)/\(j≠k->Q j C q v b)) f hk h2 m1 f.maps.symm rfl (aD ..) (λj hj=>⟨aF (cd hj),aF (cd hj),aF (cd hj),aF (cd hj)⟩) (λi hi ho=>m5 i hi (by omega)) (λj hj C q v b hA=>⟨λe=>absurd e hj,λ_=>hA⟩) ?_;by_cases hcl:C.length<c;have ed:C.drop c=[]:=cx (by omega);rw[ed]at s';have e1:decide (((min c C.length:Nat):Int)<(c:Int))=true:=lH;rw[e1];refine⟨R.2.1,R.2.2.1,Bu (re v).1,false,bq hql,bq Er,bq hvl,bq hbl,hd,x',P',[],[],s',by rw[um.1,tv.1];exact w1,um.2,λ_ e=>absurd rfl e,λ_=>?_,λe=>absurd rfl e⟩;exact(hB C q v b R.2.1 _ false hv w1 w2 w3 m4 w4).2.1 hpt hcl rfl;have e1:decide (((min c C.length:Nat):Int)<(c:Int))=false:=dw;rw[e1];refine⟨R.2.1,R.2.2.1,(re v).1,true,bq hql,bq Er,bq hvl,bq hbl,hd,x',P',C.drop c,[],s',by rw[tv.1];exact w1,msk,(λe=>by cases e),λ_=>?_,λe=>absurd rfl e⟩;exact(hB C q v b R.2.1 _ true hv w1 w2 w3 m4 w4).2.2 hpt hcl rfl
theorem JI (hn:n<=1000000000000)(g:Good n h){B:Nat->az Fw->bt->Vector->Bool->Prop}(f:Live Q h){c:Nat}(hc:1<=c/\c<=1000)(hB:∀k C q v b q' v' b',dW v=true->v.2.1<=3->v.2.2.2.2.1=b->(b=false->C≠[]->1<=v.2.2.1)->q'.2.2.2.2.1=q.2.2.2.2.1->Q k C q v b-> ((b=false/\v.2.2.2.2.2=false->b'=false->v'=v->B k C q' v' b')/\(b=true\/v.2.2.2.2.2=true->C.length<c->b'=false->B k [] q' v' b')/\(b=true\/v.2.2.2.2.2=true->¬C.length<c->b'=true->B k (C.drop c) q' v' b'))):Live B (iy h (c:Int)).1:=by
 have key:∀k:Nat,k<=h.2.2.2.1.length->Good n (jO (c:Int) k h).2/\(jO (c:Int) k h).2.2.2.2.1.length=h.2.2.2.1.length/\Live (λj C q v b=>(j<k->B j C q v b)/\(¬j<k->Q j C q v b)) (jO (c:Int) k h).2:=by intro k;induction k with|zero=>intro _;exact⟨g,rfl,f.xU λk _ C q v b hA=>⟨λe=>by omega,λ_=>hA⟩⟩|succ k ih=>intro hk;obtain⟨i1,i2,i3⟩:=ih (by omega);have st:=Mf (B:=B) hn (jO (c:Int) k h).1 i1 i3 (k:=k) (by omega) hc (λC q v b q' v' b' a1 a2 a3 a4 a5 hA=>hB k C q v b q' v' b' a1 a2 a3 a4 a5 (hA.2 (by omega)));refine⟨FR (c:Int) k i1,((Gn (c:Int) k _).rx).trans i2,st.xU λj hj C q v b hA=>⟨λM3=>?_,λM3=>?_⟩⟩;by_cases h1:j=k;subst h1;exact hA.1 rfl;exact(hA.2 h1).1 (by omega);exact(hA.2 (by omega)).2 (by omega)
 unfold iy;rw[g.ok hn,aS.2 ⟨by omega,by omega⟩];obtain⟨i1,i2,i3⟩:=key h.2.2.2.1.length (aX _);exact i3.xU λj hj C q v b hA=>hA.1 (by show j<_;rw[<-i2];exact hj)
def Ends (o:aC α)(P:α->Prop):Prop:=∃x,o=some x/\P x
theorem Ends.pure {x:α}{P:α->Prop}(h:P x):Ends (some x) P:=⟨x,rfl,h⟩
theorem Ends.bind {o:aC α}{P:α->Prop}{k:α->aC R}{Q:R->Prop}(h:Ends o P)(hk:∀x,P x->Ends (k x) Q):Ends (aa o k) Q:=by obtain⟨x,rfl,hx⟩:=h;exact hk x hx
theorem Ends.mono {o:aC α}{P Q:α->Prop}(h:Ends o P)(hq:∀x,P x->Q x):Ends o Q:=by obtain⟨x,hx,hp⟩:=h;exact⟨x,hx,hq x hp⟩
theorem Ends.cond {c:Bool}{a b:aC α}{P:α->Prop}(h1:c=true->Ends a P)(h2:c=false->Ends b P):Ends (cond c a b) P:=by cases c with|true=>exact h1 rfl|false=>exact h2 rfl
theorem Ends.ifn {p:Prop}[Decidable p]{a:aC α}{P:α->Prop}(h:¬p)(ha:Ends a P):Ends (if p then none else a) P:=by rw[aI h];exact ha
theorem Ends.room {n:Nat}{k:aC α}{P:α->Prop}(h:n<=1073741824)(hk:Ends k P):Ends (room n k) P:=by rw[bf h];exact hk
theorem Ends.of {o:aC α}{x:α}{P:α->Prop}(h:o=some x)(hp:P x):Ends o P:=⟨x,h,hp⟩
theorem Ends.iter {σ:Type}{T:(σ->aC R)->σ->aC R}{Q:R->Prop}(I:σ->Prop)(m:σ->Nat)(hs:∀x nx,I x->(∀y,I y->m y<m x->Ends (nx y) Q)->Ends (T nx x) Q): ∀n x,I x->m x<n->Ends (bp T n x) Q:=by intro n;induction n with|zero=>intro x _ h;omega|succ n ih=>intro x hx hm;rw[bp];exact hs x _ hx λy hy iz=>ih y hy (by omega)
theorem Ends.AA {σ:Type}{T:(σ->aC R)->σ->aC R}{Q:R->Prop}(I:σ->Prop)(m:σ->Nat){x:σ}(hx:I x)(hm:m x<=1000000000000)(hs:∀x nx,I x->(∀y,I y->m y<m x->Ends (nx y) Q)->Ends (T nx x) Q):Ends (bp T fuel x) Q:=Ends.iter I m hs fuel x hx (by have:=eR;omega)
theorem Ends.idx {xs:az α}{k:α->aC R}{Q:R->Prop}(h0:0<=i)(h1:i<(xs.length:Int))(hk:∀(h:i.toNat<xs.length),Ends (k xs[i.toNat]) Q):Ends (aa (idx xs i) k) Q:=by
 obtain⟨n,rfl⟩:=aA h0;have hn:n<xs.length:=by omega
 rw[bK hn,ab];exact hk (by simpa using hn)
abbrev RD:=dA×Int×Int
variable {c:RD}
def Cu (c:RD):Prop:=0<=c.2.1/\c.2.1<=(c.1.length:Int)/\c.1.length<=1048576
theorem afL (x y:Int)(n:Nat)(hy:(gM y).toNat=n)(hn:n<9223372036854775808):0<=ar (BitVec.toNat (gM x&&&gM y))/\ar (BitVec.toNat (gM x&&&gM y))<=n:=by
 have h:(gM x&&&gM y).toNat<=n:=by rw[BitVec.toNat_and,hy];exact Nat.and_le_right
 generalize (gM x&&&gM y).toNat=k at h;rw[al];omega
theorem ahJ {a:dA}(ha:a.length<=1048576):Ends (zP a) Cu:=by
 unfold zP;refine Ends.AA (λx=>0<=x.2/\x.2<=4000) (λx=>(4000-x.2).toNat) ⟨by omega,by omega⟩ (by simp) λx nx hx hn=>?_;unfold Ch;refine Ends.bind (P:=λb=>b=true->x.2<(a.length:Int)/\x.2<4000) (Ends.cond (λh=>Ends.pure λh2=>⟨bz h,bz h2⟩) λh=>Ends.pure λh2=>by cases h2) λq hq=>?_;refine Ends.cond (λh=>?_) (λh=>Ends.pure ⟨eV _,by simp,ha⟩);have hq:=hq h;refine Ends.idx hx.1 hq.1 λ_=>hn _ ⟨?_,?_⟩ ?_;all_goals simp only[al (n:=x.2+1) (by omega) (by omega)]
 all_goals omega
theorem GL (h:Cu c):Ends (mc c) λr=>(0<=r.1/\r.1<=255)/\Cu r.2:=by
 unfold mc;refine Ends.ifn (by decide) (Ends.ifn (by decide) (Ends.cond (λh1=>?_) λh1=>?_))
 ·have h1:=bz h1;refine Ends.idx h.1 h1 λ_=>Ends.pure ⟨afL _ 255 255 rfl (by decide),?_⟩;refine⟨?_,?_,h.2.2⟩;all_goals simp only[al (n:=c.2.1+1) (by have:=h.1;omega) (by have:=h.2.2;omega)]
  have:=h.1;omega;omega
 exact Ends.pure ⟨afL _ 255 255 rfl (by decide),h.1,h.2.1,h.2.2⟩
theorem iV (h:Cu c)(hn:0<n:=by omega):Ends (cE c n) λr=>(0<=r.1/\r.1<n)/\Cu r.2:=by unfold cE;rw[dw];simp only[af];refine Ends.cond (λh1=>?_) λh1=>?_;refine(GL h).bind λr hr=>Ends.ifn (by omega) (Ends.pure ⟨⟨Int.tmod_nonneg _ hr.1.1,Int.tmod_lt_of_pos _ hn⟩,hr.2⟩);refine(GL h).bind λr2 h2=>(GL h2.2).bind λr3 h3=>(GL h3.2).bind λr4 h4=>(GL h4.2).bind λr5 h5=>Ends.ifn (by omega) (Ends.pure ⟨⟨Int.tmod_nonneg _ ?_,Int.tmod_lt_of_pos _ hn⟩,h5.2⟩);have a2:=h2.1;have a3:=h3.1;have a4:=h4.1;have a5:=h5.1;rw[al (n:=r2.1*16777216),al (n:=r3.1*65536),al (n:=r4.1*256)];rw[al (n:=r2.1*16777216+r3.1*65536)];rw[al (n:=r2.1*16777216+r3.1*65536+r4.1*256)];rw[al];omega
theorem IM (h:Cu c)(n:Int):Ends (cE c n) λr=>(0<=r.1/\(r.1<n\/r.1=0))/\Cu r.2:=by
 rcases Int.lt_or_le 0 n with hn|hn;exact(iV h hn).mono λr hr=>⟨⟨hr.1.1,Or.inl hr.1.2⟩,hr.2⟩
 unfold cE;rw[aw hn];exact Ends.pure ⟨⟨eV _,Or.inr rfl⟩,h⟩
theorem yS (h:Cu c)(n:Int):Ends (iR c n) λr=>Cu r.2:=by unfold iR;exact(IM h n).bind λr hr=>Ends.pure hr.2
theorem kh (h:Cu c){l:dA}{P:Int->Prop}(hl:0<l.length)(hp:∀x∈l,P x):Ends (cQ c l) λr=>P r.1/\Cu r.2:=by unfold cQ;exact(iV h).bind λr hr=>Ends.idx hr.1.1 hr.1.2 λhi=>Ends.pure ⟨hp _ (bF hi),hr.2⟩
theorem Ki (h:Cu c)(n:Int):Ends (nT c n) λr=>(r.1.length<=5000/\(0<=n->n<=5000->(r.1.length:Int)=n)/\(n<=0->r.1=[]))/\Cu r.2:=by
 have key:∀v:Int,v<=5000->∀Q:(Bytes×RD)->Prop,(∀x c,((x.length:Int)=v\/(v<=0/\x=[]))->Cu c->Q (aR x,c))->Ends (bp (qU (λy _ z=>some (aR y,z)) v) fuel (([]:dA),0,c)) Q:=by
  intro v hv Q hQ;refine Ends.AA (λx=>(x.1.length:Int)=x.2.1/\(x.2.1<=v\/x.2.1=0)/\Cu x.2.2) (λx=>(v-x.2.1).toNat) ⟨rfl,Or.inr rfl,h⟩ (by simp;omega) λx nx hx hn=>?_;unfold qU;refine Ends.cond (λh1=>?_) λh1=>Ends.pure (hQ _ _ ?_ hx.2.2)
  ·have h1:=bz h1;refine(GL hx.2.2).bind λr hr=>Ends.room (by simp;omega) (hn _ ⟨?_,?_,hr.2⟩ ?_);all_goals simp only[al (n:=x.2.1+1) (by omega) (by omega)]
   simp;omega;omega;omega
  have h1:=fZ h1;rcases hx.2.1 with h2|h2;exact Or.inl (by omega);rcases Int.lt_or_le 0 v with h3|h3;omega;exact Or.inr ⟨h3,cp (by omega)⟩
 have hb:∀x:dA,(aR x).length=x.length:=λx=>by simp[aR]
 unfold nT;refine Ends.cond (λh1=>?_) λh1=>?_;have h1:=bz h1;refine key 5000 (by omega) _ λx c hx hc=>⟨⟨by rw[hb];rcases hx with hx|hx<;>omega,λ_ _=>by omega,λ_=>by omega⟩,hc⟩
 have h1:=fZ h1;refine key n (by omega) _ λx c hx hc=>⟨⟨?_,λh0 _=>?_,λh0=>?_⟩,hc⟩
 rw[hb];rcases hx with hx|hx;omega;rw[hx.2];simp;rw[hb];rcases hx with hx|hx;omega;rw[hx.2];simp;omega;rcases hx with hx|hx;have:x=[]:=cp (by omega);rw[this];rfl;rw[hx.2];rfl
theorem OX (h:Cu c):Ends (tU c) λr=>(167772161<=r.1/\r.1<=167772163)/\Cu r.2:=by unfold tU;refine(iV h (by decide)).bind λr hr=>Ends.pure ⟨?_,hr.2⟩;have:=hr.1;simp only[al (n:=167772161+r.1) (by omega) (by omega)];omega
theorem adj (h:Cu c):Ends (zj c) λr=>(0<=r.1/\r.1<=31)/\Cu r.2:=by unfold zj;exact(kh (P:=λx=>0<=x/\x<=31) h (by decide) (by decide)).bind λr hr=>Ends.pure hr
theorem amS (h:Cu c){m:Int}(h0:0<=m)(h1:m<=320):Ends (vx c m) λr=>(sA r.1=true/\(r.1.2.2.2.2.2.2.2.length:Int)<=m)/\Cu r.2:=by
 unfold vx;refine(iV h (by decide)).bind λr1 p1=>(iV p1.2 (by decide)).bind λr2 p2=>?_;refine(kh (P:=λx=>0<=x/\x<=4294967295) p2.2 (by simp) ?_).bind λr3 p3=>?_;have:=p2.1;intro x hx;simp only[cD,List.not_mem_nil,or_false]at hx;omega;refine(kh (P:=λx=>0<=x/\x<=4294967295) p3.2 (by decide) (by decide)).bind λr4 p4=>(adj p4.2).bind λr5 p5=>?_;refine(kh (P:=λx=>0<=x/\x<=65535) p5.2 (by decide) (by decide)).bind λr6 p6=>?_;rw[al (n:=m+1)];refine(iV p6.2).bind λr7 p7=>(Ki p7.2 r7.1).bind λr8 p8=>(yS p8.2 4).bind λr9 p9=>?_;have a1:=p1.1;have a7:=p7.1;have a8:=p8.1.2.1 a7.1 (by omega);rw[al (n:=1000+r1.1)];refine Ends.cond (λ_=>Ends.pure ⟨⟨aib (by omega) (by omega) (by omega),?_⟩,p9⟩) λ_=>Ends.pure ⟨⟨XW (by omega) (by omega) p3.1 p4.1 p5.1 p6.1 (by omega),?_⟩,p9⟩;all_goals show(r8.1.length:Int)<=m
 all_goals omega
theorem Lh (h:Cu c){m:Int}(h0:0<=m:=by omega)(h1:m<=320:=by omega):Ends (kU c m) λr=>(cH r.1=true/\(r.1.2.2.2.2.2.2.2.2.2.2.2.2.2.2.2.length:Int)<=m/\(r.1.2.2.2.2.2.2.2.2.1=6\/r.1.2.2.2.2.2.2.2.2.1=17))/\Cu r.2:=by
 unfold kU;refine(kh (P:=λx=>0<=x/\x<=281474976710655) h (by decide) (by decide)).bind λr1 p1=>?_;refine(kh (P:=λx=>0<=x/\x<=281474976710655) p1.2 (by decide) (by decide)).bind λr2 p2=>?_;refine(kh (P:=λx=> -1<=x/\x<=4095) p2.2 (by decide) (by decide)).bind λr3 p3=>?_;refine(kh (P:=λx=>0<=x/\x<=255) p3.2 (by decide) (by decide)).bind λr4 p4=>?_;refine(kh (P:=λx=>0<=x/\x<=65535) p4.2 (by decide) (by decide)).bind λr5 p5=>?_;refine(kh (P:=λx=>0<=x/\x<=255) p5.2 (by decide) (by decide)).bind λr6 p6=>?_;refine(OX p6.2).bind λr7 p7=>?_;refine(amS p7.2 (m:=if 128<m then 128 else m) (by split<;>omega) (by split<;>omega)).bind λr8 p8=>?_;have hh:∀g:fE,sA g=true->ov (r1.1,r2.1,r3.1,r4.1,r5.1,r6.1,r7.1,167772161,g)=true:=λg hg=>agU p1.1 p2.1 p3.1 p4.1 p5.1 p6.1 (by have:=p7.1;omega) (by omega) hg;have hk:∀g:fE,sA g=true->g.1=6\/g.1=17:=by intro g hg;unfold sA at hg;simp only[ae]at hg;have h2:=hg.2.2.2;cases h17:g.1==17 with|true=>exact Or.inr (by simpa using h17)|false=>rw[h17]at h2;simp only[af,ae]at h2;exact Or.inl (by simpa using h2.1)
 have hl:(r8.1.2.2.2.2.2.2.2.length:Int)<=128/\(r8.1.2.2.2.2.2.2.2.length:Int)<=m:=by have:=p8.1.2;split at this<;>omega
 have short:∀c':RD,Cu c'->Ends (some ((r1.1,r2.1,r3.1,r4.1,r5.1,r6.1,r7.1,(167772161:Int),r8.1),c')) λr:aM×RD=>(cH r.1=true/\(r.1.2.2.2.2.2.2.2.2.2.2.2.2.2.2.2.length:Int)<=m/\(r.1.2.2.2.2.2.2.2.2.1=6\/r.1.2.2.2.2.2.2.2.2.1=17))/\Cu r.2:=by intro c' zV;refine Ends.pure ⟨⟨?_,hl.2,hk _ p8.1.1⟩,zV⟩;unfold cH;rw[hh _ p8.1.1,bC];have:decide ((r8.1.2.2.2.2.2.2.2.length:Int)<=128)=true:=aw hl.1;show(decide ((r8.1.2.2.2.2.2.2.2.length:Int)<=128)||_)=true;rw[this,jU]
 refine Ends.cond (λk1=>Ends.cond (λk2=>Ends.cond (λk3=>?_) λ_=>short _ p8.2) λ_=>short _ p8.2) λ_=>short _ p8.2;have k3:=bz k3;refine(yS p8.2 2).bind λr9 p9=>Ends.cond (λ_=>?_) λ_=>short _ p9;rw[al (n:=m-128),al (n:=m-128+1)];refine(iV p9).bind λsB p10=>?_;have a10:=p10.1;rw[al (n:=128+sB.1)];refine(Ki p10.2 _).bind λxP p11=>?_;have a11:=p11.1.2.1 (by omega) (by omega);have hs:=aeW p8.1.1 (x:=xP.1) (by omega);refine Ends.pure ⟨⟨?_,by show(xP.1.length:Int)<=m;omega,Or.inl (by simpa using k1)⟩,p11.2⟩;unfold cH;rw[hh _ hs,bC];rw[OB _ (G7 p8.1.1 k1)]at k2;show(_||(r8.1.1==6)&&BR r8.1.2.2.2.2.2.1)=true;rw[k1,k2,cK,ly]
def Plain (p:aM):Prop:=ov p=true/\p.2.2.2.2.2.2.2.2.2.2.2.2.2.2.2.length<=40
theorem Plain.ok {p:aM}(h:Plain p):gb p=true:=(Xy p).2 ⟨h.1,by have:=h.2;omega⟩
theorem JS (h:Cu c):Ends (kU c 40) λr=>Plain r.1/\Cu r.2:=(Lh h).mono λr hr=>⟨⟨by have:=hr.1.1;unfold cH at this;simp only[ae]at this;exact this.1,by have:=hr.1.2.1;omega⟩,hr.2⟩
theorem ahy {Q:R->Prop}{k0:az aM->RD->aM->aC R}{l:az aM}{p:aM}(hl:l.length<=1000)(hc:Cu c)(hp:Plain p)(hk:∀c' p',Cu c'->Plain p'->Ends (k0 (l++[p]) c' p') Q):Ends (pM k0 l z n c p) Q:=by
 unfold pM;have hi:=aj1 (OT hp.1);have hs:=wE hp.1;refine Ends.room (by simp;omega) (Ends.ifn (by decide) (Ends.cond (λh6=>?_) λ_=>hk _ _ hc ⟨DF (p:=p) hp.1 hi hs,hp.2⟩));have h6:p.2.2.2.2.2.2.2.2.1=6:=by simpa using h6
 refine(yS hc 8).bind λr hr=>Ends.cond (λ_=>Ends.ifn (by decide) (hk _ _ hr ⟨DF (p:=p) hp.1 hi ?_,hp.2⟩)) λ_=>hk _ _ hr ⟨DF (p:=p) hp.1 hi hs,hp.2⟩;have k:=acD hs h6;have hlen:p.2.2.2.2.2.2.2.2.2.2.2.2.2.2.2.length<=320:=by have:=hp.2;omega
 exact Qb hs h6 (ahL k.2.2.1 hlen) k.2.2.2.2.1 hlen
theorem ahx {Q:R->Prop}{k0:az aM->RD->aM->aC R}{l:az aM}{p:aM}(hl:l.length<=1000)(hz:1<=z/\z<=40)(hc:Cu c)(hp:Plain p)(hk:∀q c' p',Plain q->Cu c'->Plain p'->Ends (k0 (l++[q]) c' p') Q):Ends (pL k0 l z n c p) Q:=by
 unfold pL;refine Ends.cond (λh6=>?_) λ_=>ahy hl hc hp λc' p' h1 h2=>hk _ _ _ hp h1 h2;have h6:p.2.2.2.2.2.2.2.2.1=6:=by simpa using h6
 refine(kh (P:=λx=>0<=x/\x<=31) hc (by decide) (by decide)).bind λr8 p8=>(Ki p8.2 z).bind λr9 p9=>?_;have a9:=p9.1.2.1 (by omega) (by omega);have hs:=wE hp.1;have hq:Plain (p.1,p.2.1,p.2.2.1,p.2.2.2.1,p.2.2.2.2.1,p.2.2.2.2.2.1,p.2.2.2.2.2.2.1,p.2.2.2.2.2.2.2.1,p.2.2.2.2.2.2.2.2.1,p.2.2.2.2.2.2.2.2.2.1,p.2.2.2.2.2.2.2.2.2.2.1,p.2.2.2.2.2.2.2.2.2.2.2.1,p.2.2.2.2.2.2.2.2.2.2.2.2.1,r8.1,p.2.2.2.2.2.2.2.2.2.2.2.2.2.2.1,r9.1):=⟨DF hp.1 (OT hp.1) (Qb hs h6 (acD hs h6).2.2.1 p8.1 (by omega)),by show r9.1.length<=40;omega⟩
 exact ahy hl p9.2 hq λc' p' h1 h2=>hk _ _ _ hq h1 h2
theorem ak0 {Q:R->Prop}{k0:az aM->Int->RD->aM->aC R}{l:az aM}{p:aM}(hl:l.length<=1000)(hz:1<=z/\z<=40)(hc:Cu c)(hp:Plain p)(hk:∀q z' c' p',Plain q->(1<=z'/\z'<=40)->Cu c'->Plain p'->Ends (k0 (l++[q]) z' c' p') Q):Ends (qW k0 l z n c p) Q:=by unfold qW;refine(yS hc 6).bind λr6 p6=>Ends.cond (λ_=>?_) λ_=>ahx hl hz p6 hp λq c' p' h1 h2 h3=>hk _ _ _ _ h1 hz h2 h3;refine(iV p6 (by decide)).bind λr7 p7=>?_;have a7:=p7.1;rw[al (n:=1+r7.1)];exact ahx hl (by omega) p7.2 hp λq c' p' h1 h2 h3=>hk _ _ _ _ h1 (by omega) h2 h3
theorem aop {Q:R->Prop}{k0:az aM->Int->Int->RD->aM->aC R}{l:az aM}{p:aM}(hl:l.length<=1000)(hz:1<=z/\z<=40)(hn:0<n/\n<=1000)(hc:Cu c)(hp:Plain p)(hk:∀q z' c' p',Plain q->(1<=z'/\z'<=40)->Cu c'->Plain p'->Ends (k0 (l++[q]) z' (n-1) c' p') Q):Ends (vy k0 l z n c p) Q:=by unfold vy;have e:ar (n-1)=n-1:=al;refine(yS hc 5).bind λr4 p4=>Ends.cond (λ_=>?_) λ_=>?_;refine(JS p4).bind λr5 p5=>ak0 hl hz p5.2 p5.1 λq z' c' p' h1 h2 h3 h4=>?_;unfold qV;rw[e];exact hk _ _ _ _ h1 h2 h3 h4;refine ak0 hl hz p4 hp λq z' c' p' h1 h2 h3 h4=>?_;unfold qV;rw[e];exact hk _ _ _ _ h1 h2 h3 h4
theorem ajW (h:Cu c){m:Int}(h0:0<m)(h1:m<=100):Ends (Bi c m) λr=>((∀p∈r.1,Plain p)/\0<r.1.length/\(r.1.length:Int)<=m)/\Cu r.2:=by unfold Bi;refine(JS h).bind λr1 p1=>(iV p1.2 (by decide)).bind λr2 p2=>(iV p2.2 h0).bind λr3 p3=>?_;have a2:=p2.1;have a3:=p3.1;rw[al (n:=r2.1*8),al (n:=8+r2.1*8),al (n:=1+r3.1)];refine Ends.AA (λx=>(∀p∈x.1,Plain p)/\(1<=x.2.1/\x.2.1<=40)/\0<=x.2.2.1/\(x.1.length:Int)+x.2.2.1=1+r3.1/\Cu x.2.2.2.1/\Plain x.2.2.2.2) (λx=>x.2.2.1.toNat) ⟨by simp,(by dsimp only;omega),(by dsimp only;omega),by simp,p3.2,p1.1⟩ (by simp;omega) λx nx hx hn=>?_;unfold Ao;refine Ends.cond (λk=>?_) λk=>?_;have k:=bz k;refine aop (by omega) hx.2.1 (by omega) hx.2.2.2.2.1 hx.2.2.2.2.2 λq z' c' p' h1 h2 h3 h4=>hn _ ⟨?_,h2,?_,?_,h3,h4⟩ ?_;intro y hy;rcases ay.1 hy with hy|hy;exact hx.1 y hy;simp only[bA]at hy;rw[hy];exact h1;show 0<=x.2.2.1-1;omega;show((x.1++[q]).length:Int)+(x.2.2.1-1)=1+r3.1;have:=hx.2.2.2.1;simp;omega;show(x.2.2.1-1).toNat<x.2.2.1.toNat;omega;have k:=fZ k;have:=hx.2.2.2.1;have:=hx.2.2.1;exact Ends.pure ⟨⟨hx.1,(by dsimp only;omega),(by dsimp only;omega)⟩,hx.2.2.2.2.1⟩
theorem aj3 (h:Cu c){l:az aM}(hl:l.length<=1000000):Ends (Bj c l) λr=>(r.1.length<=l.length/\∀s∈r.1,s.2.2.1=[])/\Cu r.2:=by unfold Bj;refine Ends.AA (λx=>0<=x.2.1/\(x.1.length:Int)<=x.2.1/\x.2.1<=(l.length:Int)/\(∀s∈x.1,s.2.2.1=[])/\Cu x.2.2) (λx=>((l.length:Int)-x.2.1).toNat) ⟨by simp,by simp,by simp,by simp,h⟩ (by simp;omega) λx nx hx hn=>?_;have e:x.2.1<(l.length:Int)->ar (x.2.1+1)=x.2.1+1:=λ_=>al;unfold Ap;refine Ends.cond (λk=>?_) λk=>Ends.pure ⟨⟨(by dsimp only;omega),hx.2.2.2.1⟩,hx.2.2.2.2⟩;have k:=bz k;rw[e k];have skip:∀c',Cu c'->Ends (nx (x.1,x.2.1+1,c')) _:=λc' zV=>hn _ ⟨by show 0<=x.2.1+1;omega,by show(x.1.length:Int)<=x.2.1+1;omega,by show x.2.1+1<=_;omega,hx.2.2.2.1,zV⟩ (by show((l.length:Int)-(x.2.1+1)).toNat<_;omega);refine Ends.idx hx.1 k λhi=>?_;rw[Qg,ab];refine Ends.cond (λ_=>?_) λ_=>skip _ hx.2.2.2.2;rw[Yc _ _ (by omega),ab];refine Ends.cond (λ_=>?_) λ_=>skip _ hx.2.2.2.2;refine(yS hx.2.2.2.2 6).bind λr4 p4=>Ends.cond (λ_=>?_) λ_=>skip _ p4;refine Ends.idx hx.1 k λhi=>(kh (P:=λ_=>True) p4 (by decide) (by simp)).bind λr6 p6=>Ends.room (by simp;omega) (hn _ ⟨by show 0<=x.2.1+1;omega,?_,by show x.2.1+1<=_;omega,?_,p6.2⟩ (by show((l.length:Int)-(x.2.1+1)).toNat<_;omega));show((x.1++[_]).length:Int)<=x.2.1+1;simp;omega;intro s hs;rcases ay.1 hs with hs|hs;exact hx.2.2.2.1 s hs;simp only[bA]at hs;rw[hs]
theorem amt (h:Cu c):Ends (CU c) λr=>r.1.length=16/\Cu r.2:=by unfold CU;exact(Ki h 16).bind λr hr=>Ends.pure ⟨by have:=hr.1.2.1 (by omega) (by omega);omega,hr.2⟩
theorem adk (h:Cu c):Ends (Bk c) λr=>Cu r.2:=by unfold Bk;refine(kh (P:=λ_=>True) h (by decide) (by simp)).bind λr1 p1=>(OX p1.2).bind λr2 p2=>(iV p2.2 (by decide)).bind λr3 p3=>?_;exact(kh (P:=λ_=>True) p3.2 (by decide) (by simp)).bind λr4 p4=>Ends.pure p4.2
theorem afh (h:Cu c):Ends (xG c) λr=>(r.1.1.1.length=16/\r.1.1.2.length<=8/\1<=r.1.2/\r.1.2<=4)/\Cu r.2:=by unfold xG;refine(iV h (by decide)).bind λr1 p1=>(amt p1.2).bind λr2 p2=>(kh (P:=λx=>0<=x/\x<=8) p2.2 (by decide) (by decide)).bind λr3 p3=>?_;have a1:=p1.1;have a3:=p3.1;rw[al (n:=1+r1.1)];refine Ends.AA (λx=>0<=x.1/\x.1+(x.2.2.2.length:Int)=r3.1/\x.2.2.1.length=16/\Cu x.2.1) (λx=>x.1.toNat) ⟨by omega,by simp,p2.1,p3.2⟩ (by simp;omega) λx nx hx hn=>?_;unfold xH;refine Ends.cond (λk=>?_) λk=>Ends.pure ⟨⟨hx.2.2.1,by have:=hx.1;have:=hx.2.1;show x.2.2.2.length<=8;omega,by show(1:Int)<=1+r1.1;omega,by show 1+r1.1<=(4:Int);omega⟩,hx.2.2.2⟩;have k:=bz k;rw[al (n:=x.1-1) (by omega) (by have:=hx.2.1;omega)];refine(IM hx.2.2.2 _).bind λr4 p4=>Ends.room (by have:=hx.2.1;simp;omega) (hn _ ⟨?_,?_,hx.2.2.1,p4.2⟩ ?_);show 0<=x.1-1;omega;show x.1-1+((x.2.2.2++[r4.1]).length:Int)=r3.1;have:=hx.2.1;simp;omega;show(x.1-1).toNat<x.1.toNat;omega
theorem aj9 (h:Cu c):Ends (Bm c) λr=>Cu r.2:=by unfold Bm;refine(iV h (by decide)).bind λr1 p1=>(kh (P:=λ_=>True) p1.2 (by decide) (by simp)).bind λr2 p2=>(OX p2.2).bind λr3 p3=>?_;refine(kh (P:=λ_=>True) p3.2 (by decide) (by simp)).bind λr4 p4=>(kh (P:=λ_=>True) p4.2 (by decide) (by simp)).bind λr5 p5=>(kh (P:=λ_=>True) p5.2 (by decide) (by simp)).bind λr6 p6=>?_;refine(kh (P:=λ_=>True) p6.2 (by decide) (by simp)).bind λr7 p7=>(kh (P:=λ_=>True) p7.2 (by decide) (by simp)).bind λr8 p8=>?_;exact Ends.cond (λ_=>(iV p8.2 (by decide)).bind λr9 p9=>Ends.pure p9.2) λ_=>Ends.pure p8.2
theorem ah9 (h:Cu c):Ends (zk c) λr=>r.1.length<=4/\Cu r.2:=by unfold zk;refine(iV h (by decide)).bind λr1 p1=>?_;have a1:=p1.1;refine Ends.AA (λx=>0<=x.2.1/\x.2.1+(x.1.length:Int)=r1.1/\Cu x.2.2) (λx=>x.2.1.toNat) ⟨a1.1,by simp,p1.2⟩ (by simp;omega) λx nx hx hn=>?_;unfold yp;refine Ends.cond (λk=>?_) λk=>Ends.pure ⟨by have:=hx.1;have:=hx.2.1;show x.1.length<=4;omega,hx.2.2⟩;have k:=bz k;rw[al (n:=x.2.1-1) (by omega) (by have:=hx.2.1;omega)];refine(aj9 hx.2.2).bind λr2 p2=>Ends.room (by have:=hx.2.1;simp;omega) (hn _ ⟨?_,?_,p2⟩ ?_);show 0<=x.2.1-1;omega;show x.2.1-1+((x.1++[r2.1]).length:Int)=r1.1;have:=hx.2.1;simp;omega;show(x.2.1-1).toNat<x.2.1.toNat;omega
theorem QC (t:az Slot)(f:iU):∀n k,walk t f n k= -1\/(0<=walk t f n k/\walk t f n k<8)
 |0,_=>Or.inl rfl
 |n+1,k=>by rw[walk];have:=Hh f k;split;exact Or.inl rfl;split;exact Or.inr ⟨by omega,by omega⟩;exact QC t f n (k+1)
theorem afo {t:az Slot}(h:om t=true):t.length=8:=by unfold om at h;simp only[ae,bn]at h;exact h.1
theorem amN (t:az Slot)(f:iU)(q:Int)(hl:t.length<=1000):Ends (Bg t f q) λr=>r.1.length=t.length:=by
 unfold Bg;rw[HJ _ (by omega),ab,LC,ab];refine Ends.bind (P:=λb=>b=false->om t=true) ?_ λb hb=>Ends.cond (λ_=>Ends.pure rfl) λNu=>?_;refine Ends.cond (λ_=>Ends.pure λh=>by cases h) λh=>?_;rw[dR,ab];exact Ends.pure λ_=>by simpa using h
 ·have h8:=afo (hb Nu);rw[Qf _ _ h8,ab];have hw:=QC t f 8 0;refine Ends.AA (λx=>(x.1= -1\/(0<=x.1/\x.1<8))/\0<=x.2/\x.2<=8) (λx=>(8-x.2).toNat) ⟨hw,by simp,by simp⟩ (by simp) λx nx hx hn=>?_;unfold Am;refine Ends.bind (P:=λb=>b=true->x.2<8) (Ends.cond (λh=>Ends.pure λ_=>bz h) λh=>Ends.pure λh=>by cases h) λb hb=>Ends.cond (λNu=>?_) λ_=>?_
  ·have hb:=hb Nu;rw[X6,ab];have hh:=OW f;rw[al (n:=DL f+x.2),al (n:=x.2+1)];have m1:=Int.tmod_nonneg 8 (a:=DL f+x.2) (by omega);have m2:=Int.tmod_lt_of_pos (DL f+x.2) (b:=8) (by omega);refine Ends.ifn (by decide) (Ends.idx m1 (by omega) λ_=>Ends.cond (λ_=>hn _ ⟨Or.inr ⟨m1,m2⟩,?_,?_⟩ ?_) λ_=>hn _ ⟨hx.1,?_,?_⟩ ?_);all_goals simp only
   all_goals omega
  refine Ends.cond (λ_=>Ends.pure rfl) λh=>?_;have h:=fZ h;have h0:0<=x.1/\x.1<8:=by omega
  exact Ends.idx h0.1 (by omega) λ_=>Ends.idx h0.1 (by omega) λ_=>Ends.pure (by simp)
structure yy (s:dj):Prop where
 r:s.1.length<=100
 t:s.2.1.length<=100
 k:s.2.2.1.length=16
 p:s.2.2.2.length<=100
theorem aiv (h:Cu c):Ends (tX c) λr=>(yy r.1.1/\1<=r.1.2/\r.1.2<=4)/\Cu r.2:=by
 unfold tX;have Wy:og=some (List.replicate 8 (0,(0,0,0,0,0),0)):=by unfold og;rw[aJ (by decide),bf (by decide)];rfl
 rw[Wy,ab];refine(afh h).bind λr2 p2=>(yS p2.2 2).bind λr3 p3=>?_;have t11:∀(n:Int)(s:dj)(c':RD),n<=4->yy s->Cu c'->Ends (bp (jB (λ(_:Int) IC Ku=>some ((Ku,r2.1.2),IC)) r2.1.2 (([]:az kc),([]:az Slot),([]:Bytes),([]:dA))) fuel (n,c',s)) λr:(dj×Int)×RD=>(yy r.1.1/\1<=r.1.2/\r.1.2<=4)/\Cu r.2:=by intro n s c' hn hs hc;refine Ends.AA (λx=>x.1<=4/\yy x.2.2/\Cu x.2.1) (λx=>x.1.toNat) ⟨hn,hs,hc⟩ (by simp;omega) λx nx hx hn=>?_;unfold jB;refine Ends.cond (λk=>?_) λk=>Ends.pure ⟨⟨hx.2.1,p2.1.2.2⟩,hx.2.2⟩;have k:=bz k;rw[al (n:=x.1-1) (by omega) (by have:=hx.1;omega)];refine(adk hx.2.2).bind λxP p11=>(IM p11 _).bind λsU p12=>(amN _ _ _ (by have:=hx.2.1.t;omega)).bind λyU p13=>hn _ ⟨?_,⟨hx.2.1.r,by have:=hx.2.1.t;show yU.1.length<=100;omega,hx.2.1.k,hx.2.1.p⟩,p12.2⟩ ?_;show x.1-1<=4;have:=hx.1;omega;show(x.1-1).toNat<x.1.toNat;omega
 have t7:∀(s:dj)(c' b:RD),yy s->s.1.length<=4->Cu c'->Ends (bp (lQ (λ(_:Int) y9=>aa (cE c' 4) λsB=>bp (jB (λ(_:Int) IC Ku=>some ((Ku,r2.1.2),IC)) r2.1.2 (([]:az kc),([]:az Slot),([]:Bytes),([]:dA))) fuel (sB.1,sB.2,y9)) r2.1.2 b (([]:az kc),([]:az Slot),([]:Bytes),([]:dA))) fuel (0,s)) λr:(dj×Int)×RD=>(yy r.1.1/\1<=r.1.2/\r.1.2<=4)/\Cu r.2:=by intro s c' b hs hl hc;refine Ends.AA (λx=>0<=x.1/\x.2.1.length=s.1.length/\yy x.2) (λx=>((s.1.length:Int)-x.1).toNat) ⟨by simp,rfl,hs⟩ (by simp;omega) λx nx hx hn=>?_;unfold lQ;refine Ends.cond (λk=>?_) λk=>(iV hc (by decide)).bind λsB p10=>t11 _ _ _ (by have:=p10.1;omega) hx.2.2 p10.2;have k:=bz k;rw[al (n:=x.1+1) (by omega) (by have:=hx.2.1;omega)];refine Ends.idx hx.1 k λ_=>Ends.ifn (by have:=p2.1.2.2;omega) (Ends.idx hx.1 k λ_=>Ends.idx hx.1 k λ_=>hn _ ⟨?_,?_,⟨?_,hx.2.2.t,hx.2.2.k,hx.2.2.p⟩⟩ ?_);show 0<=x.1+1;have:=hx.1;omega;show(List.set _ _ _).length=_;rw[aD];exact hx.2.1;show(List.set _ _ _).length<=100;rw[aD];exact hx.2.2.r;show((s.1.length:Int)-(x.1+1)).toNat<_;have:=hx.2.1;omega
 refine Ends.cond (λ_=>(ah9 p3).bind λr4 p4=>t7 _ _ _ ⟨by have:=p4.1;show r4.1.length<=100;omega,by simp,p2.1.1,by have:=p2.1.2.1;show r2.1.1.2.length<=100;omega⟩ p4.1 p4.2) λ_=>t7 _ _ _ ⟨by simp,by simp,p2.1.1,by have:=p2.1.2.1;show r2.1.1.2.length<=100;omega⟩ (by simp) p3
theorem V0 (h:Cu c):Ends (xJ c) λr=>(r.1.1=2/\(r.1.2.2=[7]\/r.1.2.2=[]))/\Cu r.2:=by unfold xJ;exact(yS h 4).bind λr1 p1=>(yS p1 2).bind λr2 p2=>Ends.cond (λ_=>Ends.pure ⟨⟨rfl,Or.inl rfl⟩,p2⟩) λ_=>Ends.pure ⟨⟨rfl,Or.inr rfl⟩,p2⟩
def MU (a:Act):Prop:=a.2.1.2.2.2.2.2.2.2.2.2.2.2.2.2.2.2.length<=1000/\a.2.2.2.2.1.length<=382/\0<=a.1/\a.1<=6
def II (r:Bool)(a:Act):Prop:=MU a/\(a.1=6->r=true)
theorem IJ {r:Bool}{l:az Act}{a:Act}(h:II r a):(l++[a]).length<=l.length+1/\∀y∈l++[a],y∈l\/II r y:=by refine⟨by simp,λy hy=>?_⟩;rcases ay.1 hy with hy|hy;exact Or.inl hy;rw[bA.1 hy];exact Or.inr h
theorem YO {Q:R->Prop}{k0:az Act->RD->aC R}{r:Bool}{l:az Act}{x:Int}{b:Bool}(hl:l.length<=1000)(hc:Cu c)(hk:∀l' c',l'.length<=l.length+1->(∀y∈l',y∈l\/II r y)->Cu c'->Ends (k0 l' c') Q):Ends (mF k0 r l ps i x b c) Q:=by
 have add:∀(a:Act)(c':RD),II r a->Cu c'->Ends (k0 (l++[a]) c') Q:=λa c' ha zV=>by have k:=IJ (r:=r) (l:=l) (a:=a) ha;exact hk _ _ k.1 k.2 zV
 have jn:∀c',Cu c'->Ends (k0 l c') Q:=λc' zV=>hk _ _ (by omega) (λy hy=>Or.inl hy) zV;unfold mF;refine Ends.cond (λ_=>(iV hc (by decide)).bind λr9 p9=>Ends.room (by simp;omega) (by exact add _ _ (by simp[II,MU]) p9.2)) λ_=>?_;refine Ends.cond (λ_=>(Lh hc).bind λsB p10=>(iV p10.2 (by decide)).bind λxP p11=>(kh (P:=λ_=>True) p11.2 (by decide) (by simp)).bind λsU p12=>Ends.room (by simp;omega) (by exact add _ _ ⟨⟨by have:=p10.1.2.1;show sB.1.2.2.2.2.2.2.2.2.2.2.2.2.2.2.2.length<=1000;omega,by simp⟩,by simp⟩ p12.2)) λ_=>?_;refine Ends.cond (λ_=>Ends.room (by simp;omega) (by exact add _ _ (by simp[II,MU]) hc)) λ_=>?_;exact Ends.cond (λ_=>Ends.cond (λkr=>Ends.room (by simp;omega) (by exact add _ _ ⟨by simp[MU],λ_=>kr⟩ hc)) λ_=>jn _ hc) λ_=>jn _ hc
theorem afI {Q:R->Prop}{k0:az Act->RD->aC R}{r:Bool}{l:az Act}{x:Int}{b:Bool}(hl:l.length<=1000)(hc:Cu c)(hk:∀l' c',l'.length<=l.length+1->(∀y∈l',y∈l\/II r y)->Cu c'->Ends (k0 l' c') Q):Ends (pO k0 r l ps i x b c) Q:=by unfold pO;refine Ends.cond (λ_=>Ends.room (by simp;omega) ?_) λ_=>?_;have k:=IJ (r:=r) (l:=l) (a:=(4,(0,0,0,0,0,0,0,0,0,0,0,0,0,0,0,([]:Bytes)),0,0,([]:Bytes),0)) (by simp[II,MU]);exact hk _ _ k.1 k.2 hc;exact Ends.cond (λ_=>YO hl hc hk) λ_=>Ends.cond (λ_=>YO hl hc hk) λ_=>YO hl hc hk
theorem akE {Q:R->Prop}{k0:az Act->RD->aC R}{r:Bool}{l:az Act}{x:Bytes}(hl:l.length<=900)(hx:x.length<=382)(hc:Cu c)(hk:∀l' c',l'.length<=l.length+2->(∀y∈l',y∈l\/II r y)->Cu c'->Ends (k0 l' c') Q):Ends (qZ k0 r l ps i x c) Q:=by unfold qZ;have k:=IJ (r:=r) (l:=l) (a:=(2,(0,0,0,0,0,0,0,0,0,0,0,0,0,0,0,([]:Bytes)),0,0,x,0)) ⟨⟨by simp,hx,by simp,by simp⟩,by simp⟩;generalize hL:l++[((2,(0,0,0,0,0,0,0,0,0,0,0,0,0,0,0,([]:Bytes)),0,0,x,0):Act)]=L at k⊢;have hk2:∀l' c',l'.length<=L.length+1->(∀y∈l',y∈L\/II r y)->Cu c'->Ends (k0 l' c') Q:=λl' c' h1 h2 h3=>hk _ _ (by omega) (λy hy=>by rcases h2 y hy with h|h;exact k.2 y h;exact Or.inr h) h3;refine Ends.room (by simp;omega) ((iV hc (by decide)).bind λr8 p8=>?_);refine Ends.cond (λ_=>Ends.room (by simp;omega) ?_) λ_=>?_;have k:=IJ (r:=r) (l:=L) (a:=(3,(0,0,0,0,0,0,0,0,0,0,0,0,0,0,0,([]:Bytes)),0,0,([]:Bytes),0)) (by simp[II,MU]);exact hk2 _ _ k.1 k.2 p8.2;exact Ends.cond (λ_=>afI (by omega) p8.2 hk2) λ_=>afI (by omega) p8.2 hk2
theorem anu {Q:R->Prop}{k0:az Act->Int->RD->aC R}{r:Bool}{l:az Act}(hl:l.length<=900)(h0:0<=i)(h1:i<(ps.length:Int))(hn:ps.length<=1000)(hc:Cu c)(hk:∀l' c',l'.length<=l.length+2->(∀y∈l',y∈l\/II r y)->Cu c'->Ends (k0 l' (i+1) c') Q):Ends (vA k0 r l ps i c) Q:=by
 have e:ar (i+1)=i+1:=al;unfold vA;refine Ends.idx h0 h1 λhi=>?_;have hf:=KK ps[i.toNat];rw[S9,ab];refine(yS hc 12).bind λr4 p4=>Ends.cond (λ_=>?_) λ_=>akE hl hf p4 λl' c' g1 g2 g3=>by unfold qY;rw[e];exact hk _ _ g1 g2 g3
 refine(IM p4 _).bind λr5 p5=>(Ki p5.2 1).bind λr6 p6=>?_;rw[J8 _ _ _,ab];exact akE hl (by rw[zL];exact hf) p6.2 λl' c' g1 g2 g3=>by unfold qY;rw[e];exact hk _ _ g1 g2 g3
theorem ajb (h:Cu c)(r:Bool):Ends (Bq c r) λx=>(x.1.length<=20/\∀a∈x.1,II r a)/\Cu x.2:=by unfold Bq;refine(ajW h (m:=10) (by omega) (by omega)).bind λr1 p1=>?_;have hn:=p1.1.2.2;refine Ends.AA (λx=>0<=x.2.1/\(x.1.length:Int)<=2*x.2.1/\x.2.1<=(r1.1.length:Int)/\(∀a∈x.1,II r a)/\Cu x.2.2) (λx=>((r1.1.length:Int)-x.2.1).toNat) ⟨by simp,by simp,by simp,by simp,p1.2⟩ (by simp;omega) λx nx hx hn=>?_;unfold Au;refine Ends.cond (λk=>?_) λk=>Ends.pure ⟨⟨by have:=hx.2.1;have:=hx.2.2.1;show x.1.length<=20;omega,hx.2.2.2.1⟩,hx.2.2.2.2⟩;have k:=bz k;have h2:=hx.2.1;refine anu (by omega) hx.1 k (by omega) hx.2.2.2.2 λl' c' g1 g2 g3=>hn _ ⟨?_,?_,?_,?_,g3⟩ ?_;show 0<=x.2.1+1;have:=hx.1;omega;show(l'.length:Int)<=2*(x.2.1+1);omega;show x.2.1+1<=(r1.1.length:Int);omega;intro a ha;rcases g2 a ha with h|h;exact hx.2.2.2.1 a h;exact h;show((r1.1.length:Int)-(x.2.1+1)).toNat<((r1.1.length:Int)-x.2.1).toNat;omega
structure oO (a b:Host):Prop where
 maps:b.2.1=a.2.1
 mem:b.1.length=a.1.length
theorem oO.refl (a:Host):oO a a:=⟨rfl,rfl⟩
theorem oO.trans {a b c:Host}(h:oO a b)(g:oO b c):oO a c:=⟨g.maps.trans h.maps,g.mem.trans h.mem⟩
theorem oO.of {a b:Host}(h:mG k a b):oO a b:=⟨h.maps,h.mem⟩
theorem akn (l:az aH)(m:cg)(d:Int)(q:bt)(k s:Bytes):(gF l m d q k s).1.length=m.length:=by
 unfold gF;cases !(cL s).2||(((cL s).1.1 !=3)||decide ((cL s).1.2.2.1<((cV q.2.2.2.1.1).1.length:Int)));case true=>rfl
 cases (hZ l m d (cL s).1.2.2.2.1 (cV q.2.2.2.1.1).1 true).2 with
 |false=>rfl
 |true=>
  simp only[af,ak];unfold sS;cases !gD q.2.1|| !rD _;case true=>exact lN ..
  cases (hZ l (hZ l m d (cL s).1.2.2.2.1 (cV q.2.2.2.1.1).1 true).1 d (sV q.2.1) _ true).2 with|false=>exact lN ..|true=>exact(lN ..).trans (lN ..)
theorem Uc (l:az aH)(m:cg)(d:Int)(q:bt)(k:Bytes):(fX l m d q k).1.length=m.length:=by
 unfold fX;cases !BK q||(!q.2.2.2.2.1||((k.length:Int) !=16));case true=>rfl
 cases (br l m d q.1).2.2&&(gF l m d q k (br l m d q.1).1).2.2 with|true=>exact akn ..|false=>rfl
theorem VE (l:az aH)(m:cg)(d:Int)(q:bt)(k:Bytes)(p:aM)(c:Bool):(je l m d q k p c).1.length=m.length:=by
 unfold je;cases !BK q||(!gb p||((k.length:Int) !=16));case true=>rfl
 cases c&&(q.2.2.2.2.1&&Fs q.2.2.2.1 p);case true=>rfl
 cases c with|true=>exact Uc ..|false=>exact(Uc ..).trans (Uc ..)
theorem aif (l:az aH)(m:cg)(d:Int)(t:dN)(p:aM)(c z:Int):(pC l m d t p c z).1.length=m.length:=by unfold pC;cases MQ t&&(cH p&&(dD z 1 t.2.1.2.1&&dD c 1 128));rfl;cases Ff t (wj p z.toNat);rfl;simp only[ah];cases hw:ud l d t.2.1 z.toNat (kb t.2.1 (wj p z.toNat:Int)).2.1 (kV p).1 m []with|none=>rfl|some x=>have hx:=(Dx _ _ _ _ _ _ _ _ hw).1;simp only;unfold J1 qu;cases hp:oK l d ((jW x.1 c t.2.2.2).map iJ) x.2 t.1 with|none=>rfl|some y=>exact(Mp _ _ _ _ _ hp).trans hx
theorem afi (h:Host)(p:aM)(c z:Int):oO h (AE h p c z).1:=by unfold AE;cases fb h with|false=>exact oO.refl h|true=>exact⟨rfl,aif ..⟩
theorem Rp (h:Host):oO h (dv h):=by unfold dv;cases fb h with|false=>exact oO.refl h|true=>exact⟨rfl,rfl⟩
theorem abp (h:Host):oO h (ko h):=by unfold ko;cases fb h with|false=>exact oO.refl h|true=>exact oO.of (pP pX h _)
theorem afj (h:Host):oO h (sv h):=by unfold sv;cases fb h with|false=>exact oO.refl h|true=>exact oO.of (pP yw h _)
theorem U9 (h:Host)(b:Int):oO h (iy h b).1:=by unfold iy;cases fb h&&dD b 1 1000 with|false=>exact oO.refl h|true=>exact oO.of (BL b h _)
theorem U8 (h:Host)(x:Bytes):oO h (gV h x):=by
 unfold gV;cases fb h;exact oO.refl h;cases (eO x).2 !=0;case true=>exact⟨rfl,rfl⟩
 cases !kK h.2.2.2.2.2.2.2.1 (eO x).1;case true=>exact⟨rfl,rfl⟩
 cases iS h.2.2.2.2.2.2.2.2.1 (h.2.2.2.1.length:Int) (eO x).1== -1;case true=>exact⟨rfl,rfl⟩
 simp only[ak,af];cases hq:h.2.2.2.1[(iS h.2.2.2.2.2.2.2.2.1 (h.2.2.2.1.length:Int) (eO x).1).toNat]? with|none=>exact oO.refl h|some q=>exact oO.trans (b:=oR h _ _ _ _) ⟨rfl,rfl⟩ (oO.of (CX (VE ..)))
theorem Kd (h:Host):∀k,oO h (lZ h k)
 |0=>oO.refl h
 |k+1=>by refine(Kd h k).trans ?_;show oO (lZ h k) (vH (lZ h k) k 1000).2;generalize lZ h k=s;unfold vH;rcases s.2.2.2.1[k]? with _|rx;exact oO.refl s;rcases s.2.2.2.2.1[k]? with _|pl;exact oO.refl s;exact⟨rfl,UL ..⟩
theorem HM (h:Host):∀k,oO h (returned h k)
 |0=>Kd h _
 |k+1=>by refine(HM h k).trans ?_;show oO (returned h k) (Lr h.2.2.1.2.2.1 k (returned h k));unfold Lr;cases h.2.2.1.2.2.1[k]? with|none=>exact oO.refl _|some x=>exact⟨rfl,rfl⟩
theorem abq (h:Host):oO h (rG h):=by unfold rG;cases fb h with|false=>exact oO.refl h|true=>have k:=ru (jD h) h.2.2.2.1.length;have r:=HM h h.2.2.1.2.2.1.length;exact⟨k.maps.trans r.maps,k.mem.trans r.mem⟩
end
end Go.Pu
