import Derived.Test.YtehfjiddofkdnaaGreatPuX1
open Bool renaming false->G,true->O
open Decidable renaming decide->ay
open Option renaming some->I
namespace Go.Pu
open Go.Dn
open List (range)
open Int (tdiv tmod)
set_option linter.unusedSimpArgs false
set_option linter.unusedVariables false
noncomputable section
variable {s t x:Bytes} {c:dv} {h:Host} {d:Int} {a hd o p:Nat} {g:Nat->Host->Host} {R α:Type} {l:Z cE} {m:cL} {r:rn}
/- Plain laws of the pure functions. -/
def yU t:=dg t ((cW t+2:Nat):Int)
def Sa (t:Bytes):=Sy ((t.take (cW t+20)).drop (cW t))
def Va (t:Bytes):Bytes:=(t.take (cW t+(yU t).toNat)).drop (cW t+20)
def apt t:=Dm (eK t ((cW t+12:Nat):Int)) (eK t ((cW t+16:Nat):Int)) (kW t:Int) (yU t-20)
def OL t:=bif ((kW t:Int)==17)&&(Sy (apt t++Va t)==0) then 65535 else Sy (apt t++Va t)
def Z0 t s:=bif ((xW s).2==0)&&((iV (xW s).1).1==t) then dE (xW s).1 else([],G)
def H0 t:=Z0 t (qD t (aG (Sa t)) (aG (OL t)))
theorem GP (h:¬(TOk t/\dg t (AN t:Int)=0/\dg t (vX t:Int)=0)):H0 t=([],G):=by have a:L6 (qD t (aG (Sa t)) (aG (OL t))) t:=O7 t (cj _) (cj _);grind[H0,Z0,xW,at2,aod]
theorem LW (t:Bytes)o n:(t.drop o).take n=(t.take (o+n)).drop o:=by grind[List.drop_take]
theorem Ut (f:cW t+20<=t.length)(g:20<=yU t)(h:yU t<=(t.length:Int))(i:t.length<=10^9):Dp (eK t ((cW t+12:Nat):Int)) (eK t ((cW t+16:Nat):Int)) (kW t:Int) (yU t-20)=true:=by have b:=Kh (s:=t) (a:=((cW t+12:Nat):Int));have c:=Kh (s:=t) (a:=((cW t+16:Nat):Int));have d:=gT t (cW t+9);have e:=Kg (s:=t) (a:=((cW t+2:Nat):Int));grind[Dp,aR,kW,yU]
theorem anP t(c:t.length<=10^9):Fq t=I (H0 t):=by
 have Y:=F4 t
 have T:=LP (kW t)
 have B:kW t<256:=gT t (cW t+9)
 unfold Fq
 rw[Yd t c,aa]
 by_cases u:t.length<cW t+46
 ·rw[ax u,GP λh=>by have:=h.1.l1;omega];rfl
 rw[aw u]
 simp only[ab]
 rw[aw (J:¬(AN t:Int)<0)]
 simp only[ab,yY t _ c,aa]
 cases R:dg t (AN t:Int) !=0 with
 |true=>simp_all[GP]
 |false=>
 simp only[ab,aa]
 cases S:dg t (vX t:Int) !=0 with
 |true=>grind[GP]
 |false=>
 have K:V ((AN t:Int)-10)=(cW t:Int):=by grind[aj]
 have L:V ((cW t:Int)+2)=((cW t+2:Nat):Int):=by grind[aj]
 have M:V ((cW t:Int)+9)=((cW t+9:Nat):Int):=by grind[aj]
 have o:V ((cW t:Int)+12)=((cW t+12:Nat):Int):=by grind[aj]
 have p:V ((cW t:Int)+16)=((cW t+16:Nat):Int):=by grind[aj]
 have q:V ((cW t:Int)+20)=((cW t+20:Nat):Int):=by grind[aj]
 have N:V ((vX t:Int)+2)=(vX t:Int)+2:=by grind[aj]
 have P:V ((vX t:Int)+2-(cW t:Int))=(vX t:Int)+2-(cW t:Int):=by grind[aj]
 have wl:V ((t.length:Int)-(cW t:Int))=(t.length:Int)-(cW t:Int):=by grind[aj]
 obtain⟨x,D,Q⟩:=nH (s:=t) (i:=cW t+9)
 have r:=Kg (s:=t) (a:=((cW t+2:Nat):Int))
 simp only[ab,aa,K,L,M,D,N,P,wl]
 rw[show dg t ((cW t+2:Nat):Int)=yU t from rfl]at r⊢
 by_cases v:yU t<(vX t:Int)+2-(cW t:Int)
 ·rw[ax v,GP λh=>by have:=h.1.n1;grind[yU]];rfl
 rw[aw v]
 simp only[ab,aa]
 by_cases w:yU t>(t.length:Int)-(cW t:Int)
 ·rw[ax w,GP λh=>by have:=h.1.n2;grind[yU]];rfl
 rw[aw w]
 obtain⟨n,X⟩:=ar r.1
 have wn:V ((cW t:Int)+yU t)=((cW t+n:Nat):Int):=by grind[aj]
 have wm:V (yU t-20)=yU t-20:=by grind[aj]
 have F:sub t (cW t:Int) ((cW t+20:Nat):Int)=I ((t.take (cW t+20)).drop (cW t)):=by grind[R9,au]
 have H:sub t ((cW t+20:Nat):Int) ((cW t+n:Nat):Int)=I (Va t):=by grind[R9,au,Va]
 have e:=Oi (eK t ((cW t+12:Nat):Int)) (eK t ((cW t+16:Nat):Int)) (kW t:Int) (yU t-20)
 have C:(Va t).length<=65535:=by unfold Va;grind
 have d:V ((UInt8.toNat x:Int))=(kW t:Int):=by grind[jf,kW]
 simp only[ab,aa,o,p,q,wn,wm,F,H,EH t _ c,d,LJ,Ut (J:cW t+20<=t.length) (J:20<=yU t) (J:yU t<=(t.length:Int)) c,ae]
 rw[show Dm (eK t ((cW t+12:Nat):Int)) (eK t ((cW t+16:Nat):Int)) (kW t:Int) (yU t-20)=apt t from rfl]at e⊢
 rw[RM _ gA,aa,aU J,RM _ (by rw[aq];omega),aa]
 rw[show Sy ((t.take (cW t+20)).drop (cW t))=Sa t from rfl]
 have A:∀y:Int,OL t=y->(U (cO (Sa t)) λf=>U (fQ t (AN t:Int) f) λg=>U (cO y) λj=>U (fQ g (vX t:Int) j) λk=>U (lA k) λb=>
  bif b.2 !=0 then I (([]:Bytes),G) else U (rk b.1) λl=>bif !(l.1==t) then I (([]:Bytes),G) else U (jP b.1) λm=>I m)=I (H0 t):=by
  intro y E
  subst E
  rw[kg,aa,Hf t _ _ c,aa,kg,aa,Hf _ _ _ (by rw[Dq];exact c),aa]
  have z:=Jr t (aG (Sa t)) (aG (OL t))
  unfold H0
  rw[show wC (wC t (AN t:Int) (aG (Sa t))) (vX t:Int) (aG (OL t))=qD t (aG (Sa t)) (aG (OL t)) from rfl]
  grind[Ox,aa,abo,KO,Z0]
 grind[OL,aa]
theorem amh t(c:t.length<=10^9):E1 t=I (H0 t):=by
 have hp:=F4 t
 have hk:=LP (kW t)
 have m:kW t<256:=gT t (cW t+9)
 have M:=Lv t
 unfold E1
 rw[QW t c,aa,Em _ _ J,aa]
 cases H:(iq t).2 with
 |false=>rw[GP λh=>by have:=h.1.eth;grind];rfl
 |true=>
 have L:=Tl H
 rw[L.1]
 simp only[ak,ab,aa]
 have F:dg (t.drop (cW t)) 2=yU t:=PR (a:=2)
 rw[F]
 by_cases C:yU t<20
 ·rw[ax C,GP λh=>by have:=h.1.n1;grind[yU]];rfl
 rw[aw C]
 simp only[ab,aa]
 by_cases g:yU t>((t.drop (cW t)).length:Int)
 ·rw[ax g,GP λh=>by have:=h.1.n2;grind[yU]];rfl
 rw[aw g]
 rw[bA]at g
 have K:(t.drop (cW t)).length=t.length-cW t:=bA ..
 obtain⟨n,P⟩:=ar (J:0<=yU t)
 obtain⟨x,R,ex⟩:=nH (s:=t.drop (cW t)) (i:=9)
 have q:idx (t.drop (cW t)) 9=I x:=R
 have T:sub (t.drop (cW t)) 0 20=I ((t.take (cW t+20)).drop (cW t)):=by grind[FJ]
 have X:sub (t.drop (cW t)) 20 (yU t)=I (Va t):=by rw[R9 (l:=t.drop (cW t)) 20 (a:=20) rfl J J,P,au,LW,fM];grind[Va]
 have o:=Oi (eK t ((cW t+12:Nat):Int)) (eK t ((cW t+16:Nat):Int)) (kW t:Int) (yU t-20)
 have p:((Va t).length:Int)=yU t-20:=by grind[Va]
 have k:V ((UInt8.toNat x:Int))=(kW t:Int):=by grind[jf,cr,kW]
 have e:eK (t.drop (cW t)) 12=eK t ((cW t+12:Nat):Int):=WH (a:=12)
 have f:eK (t.drop (cW t)) 16=eK t ((cW t+16:Nat):Int):=WH (a:=16)
 have Q:V ((Vg (kW t):Int)+2)=(Vg (kW t):Int)+2:=by grind[aj]
 simp only[ab,aa,Q1 t c,T,X,q,En _ _ (J:(t.drop (cW t)).length<=10^9),k,W7,p,e,f,Ut (J:cW t+20<=t.length) (J:20<=yU t) (J:yU t<=(t.length:Int)) c,ae,ak,SX _ m,Q]
 rw[show Dm (eK t ((cW t+12:Nat):Int)) (eK t ((cW t+16:Nat):Int)) (kW t:Int) (yU t-20)=apt t from rfl]at o⊢
 by_cases D:(Vg (kW t):Int)+2>yU t-20
 ·rw[ax D,GP λh=>by have:=h.1.n1;grind[yU]];rfl
 rw[aw D]
 simp only[ab]
 have j:((t.take (cW t+20)).drop (cW t)).length<=10^9:=gA
 rw[aU J,Vw _ (by rw[aq];omega),aa]
 have N:∀y:Int,OL t=y->(U (mw ((t.take (cW t+20)).drop (cW t))) λu=>U (dk u) λv=>U (iS t (AN t:Int) v) λw=>U (dk y) λz=>U (iS w (vX t:Int) z) λA=>U (lq A) λb=>U (qW b.1) λd=>
  U (bif b.2 !=0 then I O else bif !d.2 then I O else I (!(d.1==t))) λr=>bif r then I (([]:Bytes),G) else U (jK b.1) λB=>I B)=I (H0 t):=by
  intro y S
  subst S
  have Y:=cj (Sa t)
  have Z:=cj (OL t)
  rw[Vw _ j,aa,show Sy ((t.take (cW t+20)).drop (cW t))=Sa t from rfl]
  rw[oR,aa,Li t _ _ c,aa,oR,aa,Li _ _ _ (by rw[Dq];exact c),aa]
  have E:=Jr t (aG (Sa t)) (aG (OL t))
  unfold H0
  rw[show wC (wC t (AN t:Int) (aG (Sa t))) (vX t:Int) (aG (OL t))=qD t (aG (Sa t)) (aG (OL t)) from rfl]
  grind[Od,aa,aau,Km,Z0,iV]
 cases h8:(kW t:Int)==17 with
 |false=>simp_all[OL]
 |true=>
  grind[aa,OL]
theorem ZZ t:(H0 t).1.length<=378:=by grind[H0,Z0,pV]
theorem L2 {v}(h:0<=v/\v<=65535):(aG v).length=2:=by rw[IT,aR.2 h];rfl
theorem JC {v}(h:0<=v/\v<=4294967295):(cx v).length=4:=by rw[L3,aR.2 h];rfl
def atd E:=(E.length=18/\∀x,dg (E++x) 12=33024)\/(E.length=14/\∀x,dg (E++x) 12=2048)
theorem atd.body {E}(h:atd E)x:cW (E++x)=E.length:=by unfold cW;rcases h with⟨a,b⟩|⟨a,b⟩;all_goals grind
theorem alN {s v b}(h:BK (d,s,v,2048,b)=O):∃E,atd E/\I8 (d,s,v,2048,b)=E++b:=by
 unfold BK at h;simp only[af,aR,bne_iff_ne,ne_eq]at h;obtain⟨i,j,k,l,m,n⟩:=h;obtain⟨d,rfl⟩:=ar i.1;obtain⟨s,rfl⟩:=ar j.1;have f:=Vy (v:=d);have g:=Vy (v:=s);have p:=jB (v:=2048);by_cases o:v<0;refine⟨Cq (d:Int)++(Cq (s:Int)++aG ((2048:Nat):Int)),Or.inr ⟨by simp only[aq];omega,λx=>?_⟩,?_⟩;have e:(Cq (d:Int)++(Cq (s:Int)++aG ((2048:Nat):Int)))++x=Cq (d:Int)++(Cq (s:Int)++(aG ((2048:Nat):Int)++x)):=by simp only[aH]
 rw[e];generalize a:Cq (d:Int)++(Cq (s:Int)++(aG ((2048:Nat):Int)++x))=y;have c:y.drop 0=Cq (d:Int)++(Cq (s:Int)++(aG ((2048:Nat):Int)++x)):=a.symm;have k1:y.drop 6=Cq (s:Int)++(aG ((2048:Nat):Int)++x):=fg c f;have k2:y.drop 12=aG ((2048:Nat):Int)++x:=fg k1 g;exact kE (v:=2048) J k2;show(bif decide (v>=0) then _ else Cq (d:Int)++Cq (s:Int))++aG 2048++b=_;rw[ga,ab];simp only[aH];rfl;obtain⟨v,rfl⟩:=ar (J:0<=v);have q:=jB (v:=33024);have r:=jB (v:=v);refine⟨Cq (d:Int)++(Cq (s:Int)++(aG ((33024:Nat):Int)++(aG (v:Int)++aG ((2048:Nat):Int)))),Or.inl ⟨by simp only[aq];omega,λx=>?_⟩,?_⟩;have e:(Cq (d:Int)++(Cq (s:Int)++(aG ((33024:Nat):Int)++(aG (v:Int)++aG ((2048:Nat):Int)))))++x=Cq (d:Int)++(Cq (s:Int)++(aG ((33024:Nat):Int)++(aG (v:Int)++(aG ((2048:Nat):Int)++x)))):=by simp only[aH]
 rw[e];generalize a:Cq (d:Int)++(Cq (s:Int)++(aG ((33024:Nat):Int)++(aG (v:Int)++(aG ((2048:Nat):Int)++x))))=y;have c:y.drop 0=Cq (d:Int)++(Cq (s:Int)++(aG ((33024:Nat):Int)++(aG (v:Int)++(aG ((2048:Nat):Int)++x)))):=a.symm;have k1:y.drop 6=Cq (s:Int)++(aG ((33024:Nat):Int)++(aG (v:Int)++(aG ((2048:Nat):Int)++x))):=fg c f;have k2:y.drop 12=aG ((33024:Nat):Int)++(aG (v:Int)++(aG ((2048:Nat):Int)++x)):=fg k1 g;exact kE (v:=33024) J k2;show(bif decide ((v:Int)>=0) then(((Cq (d:Int)++Cq (s:Int))++aG 33024)++aG (v:Int)) else _)++aG 2048++b=_;rw[iG,ae];simp only[aH];rfl
theorem apX {d}(h:ipB d=O):∃A:Bytes,A.length=10/\GD d=A++(aG 0++(cx d.2.2.2.2.1++cx d.2.2.2.2.2.1))/\De d=A++(aG (Sy (GD d))++(cx d.2.2.2.2.1++cx d.2.2.2.2.2.1))/\((cr A 9:Nat):Int)=d.2.2.2.1/\∀x,dg (A++x) 2=20+(d.2.2.2.2.2.2.length:Int):=by
 unfold ipB at h;simp only[af,aR,bO]at h;obtain⟨o,i,t,p,a,b,q⟩:=d;simp only at h⊢;obtain⟨E,F,H,K,T,U,V⟩:=h;obtain⟨o,rfl⟩:=ar E.1;obtain⟨i,rfl⟩:=ar K.1;obtain⟨t,rfl⟩:=ar F.1;obtain⟨p,rfl⟩:=ar H.1;obtain⟨j,l,w,S⟩:=abP (x:=69) (y:=o);obtain⟨f,g,z,B,C⟩:=aj5 (x:=t) (y:=p);obtain⟨c,L,D⟩:=Vq (GD ((o:Int),(i:Int),(t:Int),(p:Int),a,b,q));have P:=jB (v:=20+q.length);have Q:=jB (v:=i);have R:=jB (v:=16384);have X:=jB (v:=0);have lc:=jB L;have u:([j,l]++(aG ((20+q.length:Nat):Int)++(aG (i:Int)++(aG ((16384:Nat):Int)++[f,g])))).length=10:=by simp only[aq,bj,fF];omega
 have m:GD ((o:Int),(i:Int),(t:Int),(p:Int),a,b,q)=([j,l]++(aG ((20+q.length:Nat):Int)++(aG (i:Int)++(aG ((16384:Nat):Int)++[f,g]))))++(aG ((0:Nat):Int)++(cx a++cx b)):=by show((((((bs2 69 (iQ (o:Int))++aG (20+(q.length:Int)))++aG (i:Int))++aG 16384)++bs2 (iQ (t:Int)) (iQ (p:Int)))++aG 0)++cx a)++cx b=_;rw[w,z,(J:(20:Int)+(q.length:Int)=((20+q.length:Nat):Int))];simp only[aH];rfl
 refine⟨_,u,m,?_,?_,λx=>?_⟩;unfold De;rw[D,m];exact Jp (k:=10) u J;generalize r:[j,l]++(aG ((20+q.length:Nat):Int)++(aG (i:Int)++(aG ((16384:Nat):Int)++[f,g])))=y;have s:y.drop 0=[j,l]++(aG ((20+q.length:Nat):Int)++(aG (i:Int)++(aG ((16384:Nat):Int)++[f,g]))):=r.symm;have k2:=fg s (n:=2) rfl;have k4:=fg k2 P;have M:=fg k4 Q;have N:y.drop 8=f::g::[]:=fg M R;rw[Ec (wg N),C];have e:([j,l]++(aG ((20+q.length:Nat):Int)++(aG (i:Int)++(aG ((16384:Nat):Int)++[f,g]))))++x=[j,l]++(aG ((20+q.length:Nat):Int)++(aG (i:Int)++(aG ((16384:Nat):Int)++([f,g]++x)))):=by simp only[aH]
 rw[e];generalize r:[j,l]++(aG ((20+q.length:Nat):Int)++(aG (i:Int)++(aG ((16384:Nat):Int)++([f,g]++x))))=y;have s:y.drop 0=[j,l]++(aG ((20+q.length:Nat):Int)++(aG (i:Int)++(aG ((16384:Nat):Int)++([f,g]++x)))):=r.symm;have k2:y.drop 2=aG ((20+q.length:Nat):Int)++(aG (i:Int)++(aG ((16384:Nat):Int)++([f,g]++x))):=fg s rfl;have f2:dg y 2=((20+q.length:Nat):Int):=kE (k:=2) J k2;rw[f2];omega
theorem anG {a b g}(h:ED a b g=O):∃A B:Bytes,(g.1=6/\A.length=16\/g.1=17/\A.length=6)/\bare g=A++(aG 0++B)/\D9 a b g=A++(aG (Ph a b g)++B):=by
 have hs:vH g=true:=by grind[ED]
 obtain⟨c,y,o⟩:=sum_nat a b g;have lc:=jB y;have F:=jB (v:=0);unfold vH at hs;simp only[af,aR,aW,cp]at hs;obtain⟨k,s,d,n,m,f,w,q⟩:=g;simp only at hs o⊢;obtain⟨p,r,D,l⟩:=hs;have H:=L2 p;have ld:=L2 r;cases e:k==17 with
 |true=>
  have z:k=17:=by simpa using e
  subst z;have C:=L2 (v:=8+(q.length:Int)) J;have i:bare (17,s,d,n,m,f,w,q)=((aG s++aG d)++aG (8+(q.length:Int)))++(aG ((0:Nat):Int)++q):=by show(((aG s++aG d)++aG (8+(q.length:Int)))++aG 0)++q=_;rw[aH];rfl
  have j:((aG s++aG d)++aG (8+(q.length:Int))).length=6:=by simp_all
  refine⟨_,q,Or.inr ⟨rfl,j⟩,i,?_⟩;unfold D9;rw[o,i];exact Jp (k:=6) j J
 |false=>
  rw[e]at l;simp only[ab,af,bw,aR]at l;obtain⟨rfl,t,u,E,x⟩:=l;have C:=JC t;have lm:=JC u;have lw:=L2 x;have i:bare (6,s,d,n,m,f,w,q)=(((((aG s++aG d)++cx n)++cx m)++bs2 80 (iQ f))++aG w)++(aG ((0:Nat):Int)++(aG 0++q)):=by show(((((aG s++aG d)++cx n)++cx m)++bs2 80 (iQ f))++aG w)++cx 0++q=_;grind[TL]
  have j:(((((aG s++aG d)++cx n)++cx m)++bs2 80 (iQ f))++aG w).length=16:=by grind[Vm]
  refine⟨_,aG 0++q,Or.inl ⟨rfl,j⟩,i,?_⟩;grind[D9,Jp]
def Kl (E A B A' R X Y:Bytes):=E++(A++(X++(B++(A'++(Y++R)))))
theorem aeI {E A B A' R X Y X2 Y2}(g:X.length=2)(c:X2.length=2)(h:Y.length=2)(d:Y2.length=2)(e:AN (Kl E A B A' R X Y)=E.length+A.length)(f:vX (Kl E A B A' R X Y)=E.length+A.length+2+B.length+A'.length):qD (Kl E A B A' R X Y) X2 Y2=Kl E A B A' R X2 Y2:=by
 unfold qD;rw[e,f];have a:wC (Kl E A B A' R X Y) ((E.length+A.length:Nat):Int) X2=Kl E A B A' R X2 Y:=by have:=Jp (A:=E++A) (X:=X) (Y:=X2) (B:=B++(A'++(Y++R))) (k:=E.length+A.length) (by rw[aq]) J;grind[Kl]
 have b:wC (Kl E A B A' R X2 Y) ((E.length+A.length+2+B.length+A'.length:Nat):Int) Y2=Kl E A B A' R X2 Y2:=by have:=Jp (A:=E++(A++(X2++(B++A')))) (X:=Y) (Y:=Y2) (B:=R) (k:=E.length+A.length+2+B.length+A'.length) gA J;grind[Kl]
 rw[a,b]
theorem alS {p}(h:di p=O):H0 (iV p).1=dE p:=by
 have x:vn p=true:=by grind[di]
 have g:=CB x;have k:=x;unfold vn at k;simp only[af]at k;obtain⟨h1,h2,h3,h4,h5,h6,U,V,_⟩:=k;have y:=Iv g;have hbl:=Qr p.2.2.2.2.2.2.2.2;have hk:dF p.2.2.2.2.2.2.2.2.1 0 255=true:=by unfold vH at g;simp only[af]at g;have j:=g.2.2.2;cases d:p.2.2.2.2.2.2.2.2.1==17 with|true=>rw[show p.2.2.2.2.2.2.2.2.1=17 from by simpa using d];rfl|false=>rw[d]at j;simp only[ab,af,bw]at j;rw[j.1];rfl
 have hs:ED p.2.2.2.2.2.2.1 p.2.2.2.2.2.2.2.1 p.2.2.2.2.2.2.2.2=true:=by grind[ED,Dp,aR]
 have R:Mn p=(D9 p.2.2.2.2.2.2.1 p.2.2.2.2.2.2.2.1 p.2.2.2.2.2.2.2.2,O):=by grind[Mn,EE]
 have n:=ac0 p.2.2.2.2.2.2.1 p.2.2.2.2.2.2.2.1 p.2.2.2.2.2.2.2.2;rw[show EE p.2.2.2.2.2.2.1 p.2.2.2.2.2.2.2.1 p.2.2.2.2.2.2.2.2=Mn p from rfl,R]at n;have hi:ipB (p.2.2.2.1,p.2.2.2.2.1,p.2.2.2.2.2.1,p.2.2.2.2.2.2.2.2.1,p.2.2.2.2.2.2.1,p.2.2.2.2.2.2.2.1,(Mn p).1)=true:=by grind[ipB]
 have ei:ipP p=(De (p.2.2.2.1,p.2.2.2.2.1,p.2.2.2.2.2.1,p.2.2.2.2.2.2.2.2.1,p.2.2.2.2.2.2.1,p.2.2.2.2.2.2.2.1,(Mn p).1)++(Mn p).1,O):=by grind[ipP,ipR]
 have hl:=S2 p;have hp:=Rp (ipP p).1;have he:BK (p.1,p.2.1,p.2.2.1,2048,pad (ipP p).1)=true:=by grind[BK,aR]
 have em:(dE p).1=I8 (p.1,p.2.1,p.2.2.1,2048,pad (ipP p).1):=by grind[dE,alL,YR]
 obtain⟨z,ez⟩:=afz (ipP p).1;obtain⟨E,Z,eE⟩:=alN he;obtain⟨A,H,K,a3,L,a5⟩:=apX hi;obtain⟨A',a,b1,M,b3⟩:=anG hs;have ib:=PW h;have tb:(iV p).1=qD (dE p).1 (aG 0) (aG 0):=by grind[iV]
 have i2:=El h;have ii:dE p=((dE p).1,O):=by rw[<-i2]
 have B:=aR.1 U;have D:=aR.1 V;have hk2:=aR.1 hk;obtain⟨c,hc,u⟩:=Vq (GD (p.2.2.2.1,p.2.2.2.2.1,p.2.2.2.2.2.1,p.2.2.2.2.2.2.2.2.1,p.2.2.2.2.2.2.1,p.2.2.2.2.2.2.2.1,(Mn p).1));obtain⟨c',l,i⟩:=sum_nat p.2.2.2.2.2.2.1 p.2.2.2.2.2.2.2.1 p.2.2.2.2.2.2.2.2;have S:(Mn p).1.length=(bare p.2.2.2.2.2.2.2.2).length:=by grind[D9,Dq]
 have lc:=jB hc;have r:=jB l;have l0:=jB (v:=0);have w1:=JC B;have w2:=JC D;rw[<-u]at lc;rw[<-i]at r;have N:(dE p).1=Kl E A (cx p.2.2.2.2.2.2.1++cx p.2.2.2.2.2.2.2.1) A' (a++z) (aG (Sy (GD (p.2.2.2.1,p.2.2.2.2.1,p.2.2.2.2.2.1,p.2.2.2.2.2.2.2.2.1,p.2.2.2.2.2.2.1,p.2.2.2.2.2.2.2.1,(Mn p).1)))) (aG (Ph p.2.2.2.2.2.2.1 p.2.2.2.2.2.2.2.1 p.2.2.2.2.2.2.2.2)):=by grind[Kl]
 generalize m:Sy (GD (p.2.2.2.1,p.2.2.2.2.1,p.2.2.2.2.2.1,p.2.2.2.2.2.2.2.2.1,p.2.2.2.2.2.2.1,p.2.2.2.2.2.2.2.1,(Mn p).1))=C at N lc u;have F:∀X Y:Bytes,X.length=2->cW (Kl E A (cx p.2.2.2.2.2.2.1++cx p.2.2.2.2.2.2.2.1) A' (a++z) X Y)=E.length/\((kW (Kl E A (cx p.2.2.2.2.2.2.1++cx p.2.2.2.2.2.2.2.1) A' (a++z) X Y):Nat):Int)=p.2.2.2.2.2.2.2.2.1:=by intro X Y f;have P:=Z.body (A++(X++((cx p.2.2.2.2.2.2.1++cx p.2.2.2.2.2.2.2.1)++(A'++(Y++(a++z))))));refine⟨P,?_⟩;rw[<-L];congr 1;show cr _ (cW _+9)=_;grind[Kl,xA,Nat.add_sub_cancel_left,lK]
 have ps:∀X Y:Bytes,X.length=2->AN (Kl E A (cx p.2.2.2.2.2.2.1++cx p.2.2.2.2.2.2.2.1) A' (a++z) X Y)=E.length+A.length/\vX (Kl E A (cx p.2.2.2.2.2.2.1++cx p.2.2.2.2.2.2.2.1) A' (a++z) X Y)=E.length+A.length+2+(cx p.2.2.2.2.2.2.1++cx p.2.2.2.2.2.2.2.1).length+A'.length:=by intro X Y f;obtain⟨q1,q2⟩:=F X Y f;unfold AN vX;rw[q1,aq];have hsp:=LP (kW (Kl E A (cx p.2.2.2.2.2.2.1++cx p.2.2.2.2.2.2.2.1) A' (a++z) X Y));omega
 have b:(aG 0).length=2:=l0;have w:(iV p).1=Kl E A (cx p.2.2.2.2.2.2.1++cx p.2.2.2.2.2.2.2.1) A' (a++z) (aG 0) (aG 0):=by grind[aeI]
 rw[w];have q:=F (aG 0) (aG 0) b;have s:=ps (aG 0) (aG 0) b;have Q:=λX2 Y2 f hY=>aeI (X2:=X2) (Y2:=Y2) b f b hY s.1 s.2;generalize ht:Kl E A (cx p.2.2.2.2.2.2.1++cx p.2.2.2.2.2.2.2.1) A' (a++z) (aG 0) (aG 0)=t at w q s Q⊢;have d0:t.drop E.length=A++(aG 0++((cx p.2.2.2.2.2.2.1++cx p.2.2.2.2.2.2.2.1)++(A'++(aG 0++(a++z))))):=by rw[<-ht];exact List.drop_left
 have d10:=fg d0 H;have d12:t.drop (E.length+12)=cx p.2.2.2.2.2.2.1++(cx p.2.2.2.2.2.2.2.1++(A'++(aG 0++(a++z)))):=by have:=fg d10 b;grind
 have d16:t.drop (E.length+16)=cx p.2.2.2.2.2.2.2.1++(A'++(aG 0++(a++z))):=by have:=fg d12 w1;exact this
 have d20:t.drop (E.length+20)=bare p.2.2.2.2.2.2.2.2++z:=by rw[M];have:=fg d16 w2;grind
 have g1:eK t ((E.length+12:Nat):Int)=p.2.2.2.2.2.2.1:=by obtain⟨v,o⟩:=ar B.1;rw[o]at d12⊢;exact BL J d12
 have g2:eK t ((E.length+16:Nat):Int)=p.2.2.2.2.2.2.2.1:=by obtain⟨v,o⟩:=ar D.1;rw[o]at d16⊢;exact BL J d16
 have T:yU t=20+((bare p.2.2.2.2.2.2.2.2).length:Int):=by unfold yU;rw[q.1,<-PR,d0];grind
 have sX:Sa t=C:=by
  unfold Sa;rw[q.1,<-LW,d0,<-m,K];congr 1;have e:A++(aG 0++((cx p.2.2.2.2.2.2.1++cx p.2.2.2.2.2.2.2.1)++(A'++(aG 0++(a++z)))))=(A++(aG 0++(cx p.2.2.2.2.2.2.1++cx p.2.2.2.2.2.2.2.1)))++(A'++(aG 0++(a++z))):=by simp only[aH]
  grind[List.take_left',aq]
 have sG:Va t=bare p.2.2.2.2.2.2.2.2:=by unfold Va;rw[q.1,T,(J:(20+((bare p.2.2.2.2.2.2.2.2).length:Int)).toNat=20+(bare p.2.2.2.2.2.2.2.2).length),(J:E.length+(20+(bare p.2.2.2.2.2.2.2.2).length)=(E.length+20)+(bare p.2.2.2.2.2.2.2.2).length),<-LW,d20];exact List.take_left
 have sY:OL t=Ph p.2.2.2.2.2.2.1 p.2.2.2.2.2.2.2.1 p.2.2.2.2.2.2.2.2:=by unfold OL apt Ph;grind
 simp_all[H0,Z0,dE]
theorem Ed (s:Bytes):aZ (dU s)=s:=by simp_all[aZ,dU,List.map_congr_left]
theorem apU (s t:Bytes):dU (s++t)=dU s++dU t:=df
theorem Q8 (s:Bytes):(dU s).length=s.length:=bt ..
theorem VH (l:Z α)i j(h:i<=j)(a:j<=l.length):sub l (i:Int) (j:Int)=I ((l.drop i).take (j-i)):=by grind[sub,List.take_drop]
theorem ald (a k:Nat):tdiv (a:Int) (k:Int)=((a/k:Nat):Int):=(Int.ofNat_tdiv a k).symm
theorem Sd (a k:Nat):tmod (a:Int) (k:Int)=((a%k:Nat):Int):=(Int.ofNat_tmod a k).symm
theorem mem_iff:dC m=O↔(∀x∈m,x.length=128)/\m.length<=64:=by grind[dC]
theorem aeb:∀{m:cL},(∀x∈m,x.length=128)->m.flatten.length=128*m.length
 |[],_=>rfl
 |x::m,h=>by have:=aeb (m:=m) (λy a=>h y (by simp[a]));grind
theorem aab:∀{m:cL}(_:∀x∈m,x.length=128)(p:Nat)(a:p<m.length)(o c:Nat),o+c<=128->(m.flatten.drop (128*p+o)).take c=(m[p].drop o).take c
 |x::m,h,0,a,o,c,b=>by grind
 |x::m,h,p+1,a,o,c,b=>by have e:=h x aD;simp only[List.flatten_cons,List.getElem_cons_succ];rw[(J:128*(p+1)+o=x.length+(128*p+o)),List.drop_length_add_append];exact aab (m:=m) (λy d=>h y (by simp[d])) p (by simpa using a) o c b
def F5 (m:cL)(a n:Nat):Bytes:=(m.flatten.drop a).take n
theorem KD {n}(h:dC m=O)(hn:a+n<=128*m.length):(F5 m a n).length=n:=by have:=aeb (mem_iff.1 h).1;grind[F5]
theorem aqx m a n:(F5 m a n).length<=n:=by simp[F5];omega
theorem aaX m a k c:F5 m a (k+c)=F5 m a k++F5 m (a+k) c:=by grind[F5,fM]
theorem Qc (h:dC m=O)e{c}(d:o+c<=128)(b:a=128*p+o):(m[p].drop o).take c=F5 m a c:=by subst b;exact(aab (mem_iff.1 h).1 p e o c d).symm
def jj m a n:=dC m&&decide (0<=n/\0<=a/\a+n<=128*(m.length:Int))
theorem M5 m a n(h:m.length<=10^9):Cd m a n=I (jj m a n):=by unfold Cd jj;rw[P1 m h,aa,aj (n:=(m.length:Int)*128) J J];cases e:dC m with|false=>rfl|true=>simp only[ae,bg];by_cases b:n>=0;by_cases c:n<=(m.length:Int)*128;rw[aj (n:=(m.length:Int)*128-n) J J];by_cases d:a>=0;simp only[ax b,ax c,ax d,ae,aa];exact congrArg I (decide_eq_decide.2 J);simp only[ax b,ax c,aw d,ae,ab,aa];exact congrArg I (ga).symm;simp only[ax b,aw c,ae,ab,aa];exact congrArg I (ga).symm;simp only[aw b,ab,aa];exact congrArg I (ga).symm
theorem Ny m a n(h:m.length<=10^9):pw m a n=I (jj m a n):=by unfold pw jj;rw[LI m h,aa,aj (n:=128*(m.length:Int)) J J];cases e:dC m with|false=>rfl|true=>simp only[ae,bg];by_cases b:n>=0;by_cases c:a>=0;by_cases d:a<=128*(m.length:Int);rw[aj (n:=128*(m.length:Int)-a) J J];simp only[ax b,ax d,ax c,ae,aa];exact congrArg I (decide_eq_decide.2 J);simp only[ax b,aw d,ax c,ae,ab,aa];exact congrArg I (ga).symm;simp only[ax b,aw c,ae,ab,aa];exact congrArg I (ga).symm;simp only[aw b,ab,aa];exact congrArg I (ga).symm
theorem QY (d:dC m=O)(K:Int->dw->aS R):∀(n r k a f:Nat),r<=n->n<f->a+k+r<=128*m.length->
 aQ (oU K ((k+r:Nat):Int) m) f (((a+k:Nat):Int),dU (F5 m a k))=K ((a+k+r:Nat):Int) (dU (F5 m a (k+r)))
 |n,r,k,a,0,_,hf,_=>J
 |n,0,k,a,f+1,i,hf,h=>by grind[aQ,oU,Q8,KD]
 |0,r+1,k,a,f+1,i,hf,h=>J
 |n+1,r+1,k,a,f+1,i,hf,h=>by
  have q:=(mem_iff.1 d).2;have s:=KD d (J:a+k<=128*m.length);obtain⟨p,y⟩:∃p,(a+k)/128=p:=⟨_,rfl⟩
  obtain⟨o,x⟩:∃o,(a+k)%128=o:=⟨_,rfl⟩
  have g:a+k=128*p+o:=J;have t:o<128:=J;have b:p<m.length:=J;obtain⟨c,w⟩:∃c,min (r+1) (128-o)=c:=⟨_,rfl⟩
  have u:=(mem_iff.1 d).1 _ (az b);have j:tdiv ((a+k:Nat):Int) 128=(p:Int):=gA;have l:tmod ((a+k:Nat):Int) 128=(o:Int):=gA;have v:=QY d K n (r+1-c) (k+c) a f J J J;rw[aQ];simp only[oU,Q8,s,j,l];rw[iG,ae,nQ,aj (n:=(p:Int)) J J,aP b,aa,nQ];rw[aj (n:=(o:Int)+((k+(r+1):Nat):Int)) J J,aj (n:=(o:Int)+((k+(r+1):Nat):Int)-(k:Int)) J J];rw[show(if(o:Int)+((k+(r+1):Nat):Int)-(k:Int)<128 then(o:Int)+((k+(r+1):Nat):Int)-(k:Int) else 128)=((o+c:Nat):Int) by split<;>omega];rw[VH _ _ _ J J,aa,(J:o+c-o=c),Qc d b (J:o+c<=128) g];have e:=KD d (J:a+k+c<=128*m.length);rw[e,aU J,aj J J,<-apU,<-aaX];grind
theorem apP m a n(h:m.length<=10^9):vA m a n=I (bif jj m a n then(F5 m a.toNat n.toNat,O) else([],G)):=by have g:=dB;unfold vA;rw[M5 m a n h,aa];cases c:jj m a n with|false=>rfl|true=>simp only[jj,af,bO]at c;obtain⟨b,d,e,j⟩:=c;have f:=(mem_iff.1 b).2;simp only[ak,ab,ae];rw[zip,aU J];obtain⟨a,rfl⟩:=ar e;obtain⟨n,rfl⟩:=ar d;have:=QY b (λ(k:Int) (i:dw)=>I (aZ i,O)) n n 0 a fuel J J J;rw[cR,eY]at this;refine Eq.trans this ?_;simp only[Ed,au]
theorem RZ (d:dC m=O)(K:Int->Int->Bytes->aS R):∀(n r k a f:Nat),r<=n->n<f->a+k+r<=128*m.length->
 aQ (uX K m) f (((a+k:Nat):Int),(r:Int),F5 m a k)=K ((a+k+r:Nat):Int) 0 (F5 m a (k+r))
 |n,r,k,a,0,_,hf,_=>J
 |n,0,k,a,f+1,i,hf,h=>by rfl
 |0,r+1,k,a,f+1,i,hf,h=>J
 |n+1,r+1,k,a,f+1,i,hf,h=>by
  have q:=(mem_iff.1 d).2;have s:=KD d (J:a+k<=128*m.length);obtain⟨p,y⟩:∃p,(a+k)/128=p:=⟨_,rfl⟩
  obtain⟨o,x⟩:∃o,(a+k)%128=o:=⟨_,rfl⟩
  have g:a+k=128*p+o:=J;have t:o<128:=J;have b:p<m.length:=J;obtain⟨c,w⟩:∃c,min (r+1) (128-o)=c:=⟨_,rfl⟩
  have u:=(mem_iff.1 d).1 _ (az b);have j:tdiv ((a+k:Nat):Int) 128=(p:Int):=gA;have l:tmod ((a+k:Nat):Int) 128=(o:Int):=gA;have v:=RZ d K n (r+1-c) (k+c) a f J J J;rw[aQ];simp only[uX,j,l];rw[iG,ae,nQ,nQ,aj (n:=(p:Int)) J J,aP b,aa];rw[aj (n:=128-(o:Int)) J J];rw[show(if 128-(o:Int)<((r+1:Nat):Int) then 128-(o:Int) else((r+1:Nat):Int))=(c:Int) by split<;>omega];rw[aj (n:=(o:Int)+(c:Int)) J J,(J:(o:Int)+(c:Int)=((o+c:Nat):Int))];rw[VH _ _ _ J J,aa,(J:o+c-o=c),Qc d b (J:o+c<=128) g];have e:=KD d (J:a+k+c<=128*m.length);rw[e,s,aU J,aj (n:=((a+k:Nat):Int)+(c:Int)) J J,aj (n:=((r+1:Nat):Int)-(c:Int)) J J,<-aaX];grind
theorem aqY m a n(h:m.length<=10^9):vP m a n=I (bif jj m a n then(F5 m a.toNat n.toNat,O) else([],G)):=by have g:=dB;unfold vP;rw[Ny m a n h,aa];cases c:jj m a n with|false=>rfl|true=>simp only[jj,af,bO]at c;obtain⟨b,d,e,j⟩:=c;have f:=(mem_iff.1 b).2;simp only[ak,ab,ae];obtain⟨a,rfl⟩:=ar e;obtain⟨n,rfl⟩:=ar d;have:=RZ b (λ(k:Int) (l:Int) (i:Bytes)=>I (i,O)) n n 0 a fuel J J J;rw[cR,eY]at this;exact this
def acF d p w x:=Ce d p x&&(x.2.2.2|| !w)
def zY (l:Z cE)(d p:Int)(w:Bool):Int:=match l.findIdx? (acF d p w)with|some i=>(l.getD i acG).2.2.1|none=> -1
theorem aqV l d p w(h:l.length<=10^9):Ht l d p w=I (zY l d p w):=by unfold Ht zY;refine Eq.trans (HE (p:=acF d p w) (hit:=λi=>U (idx l i) λx=>I x.2.2.1) (fin:=some (-1)) l J (λi a b=>?_) (λb=>?_)) ?_;simp only[Bu];rw[iG,aP a,aj J J];simp only[ae,aa,acF,Ce];cases l[i].1==d<;>cases l[i].2.1==p<;>cases l[i].2.2.2<;>cases w<;>rfl;simp only[Bu];rw[ga];rfl;cases hf:l.findIdx? (acF d p w)with|none=>rfl|some i=>obtain⟨a,_⟩:=List.findIdx?_eq_some_iff_getElem.1 hf;simp only[aP a,aa,cU a]
theorem Xp (h:gU l=O){i}(a:i<l.length):S6 l[i]=O/\∀j (b:j<i),Ce l[i].1 l[i].2.1 (l[j]'J)=false:=by simp only[gU,af,aL,bK]at h;have:=h.2 i a;simp only[acE,af,aL,bK,cU a,aW]at this;grind
theorem aaF {p m}:Ce d p m=O↔m.1=d/\m.2.1=p:=by simp[Ce]
theorem ap5 (h:gU l=O){p i j}c(e:j<l.length)(a:Ce d p l[i]=O)(b:Ce d p l[j]=O):i=j:=by grind[aaF,Xp]
theorem Xw (h:gU l=O)d p w(a:0<=zY l d p w):zY l d p w<=63/\0<=p/\p<=1023:=by grind[zY,acF,List.findIdx?_eq_some_iff_getElem,Xp,aaF,S6,aR]
theorem amn l d(a:Nat)w(h:l.length<=10^9)(c:gU l=O)(s:a<=9223372036854775807): Ln l d (a:Int) w=I (if 0<=zY l d ((a/128:Nat):Int) w then zY l d ((a/128:Nat):Int) w*128+((a%128:Nat):Int) else-1):=by
 have f:tdiv (a:Int) 128=((a/128:Nat):Int):=ald a 128;have g:tmod (a:Int) 128=((a%128:Nat):Int):=Sd a 128;unfold Ln;rw[ga,ab,nQ,f,g,aj J J,aeW l _ _ h,aa];generalize ((a/128:Nat):Int)=p;have m:=Xw c d p w;unfold afA;cases k:l.findIdx? (Ce d p)with
 |none=>
  have n:zY l d p w= -1:=by grind[zY,acF]
  rw[n];rfl
 |some i=>
  obtain⟨b,q,r⟩:=List.findIdx?_eq_some_iff_getElem.1 k;simp only;rw[ga,aP b];simp only[ab,aa];cases e:l[i].2.2.2|| !w with
  |true=>
   have hF:zY l d p w=l[i].2.2.1:=by grind[zY,List.findIdx?_eq_some_iff_getElem,acF]
   have j:=(Xp c b).1;simp only[S6,af,aR]at j
   rw[hF,aI (J:0<=l[i].2.2.1),show(U (cond w (I (!l[i].2.2.2)) (I G)) λq3=>cond q3 (I (-1:Int)) _)=_ from by
    have:(cond w (I (!l[i].2.2.2)) (I G))=I false:=by cases w<;>cases o:l[i].2.2.2<;>rw[o]at e<;>first|rfl|cases e
    rw[this,aa,ab]]
   grind[aj]
  |false=>grind[zY,fP,Ce,acF,ap5,aa]
def nZ (l:Z cE)(m:cL)(d:Int)(w:Bool):Nat->Nat->Nat->aS (Z (Int×Int))
 |0,_,_=>I []
 |n+1,a,r=>if r=0 then I [] else
  if 0<=zY l d ((a/128:Nat):Int) w/\zY l d ((a/128:Nat):Int) w<(m.length:Int) then
   (nZ l m d w n (a+min (128-a%128) r) (r-min (128-a%128) r)).map (λq=>(zY l d ((a/128:Nat):Int) w*128+((a%128:Nat):Int),((min (128-a%128) r:Nat):Int))::q)
  else none
theorem L1 (d:dC m=O){f}(a:0<=f){c:Nat}(b:0<c:=by omega)(e:o+c<=128:=by omega):jj m (f*128+(o:Int)) (c:Int)=decide (f<(m.length:Int)):=by grind[jj]
theorem agV (b:dC m=O){f}(a:0<=f):jj m (f*128) 128=decide (f<(m.length:Int)):=by grind[jj]
theorem Q0 (j:gU l=O)(u:l.length<=10^9)(k:dC m=O)(d:Int)(w:Bool):∀(n a r f:Nat)(b:Z (Int×Int)),r<=n->n<f->b.length+n<=1000000->a<=9223372036854775807->
 aQ (xM (λ(K:Int) (C:Int) (o:Z (Int×Int))=>I (o,O)) (λ(D:Int) (E:Int) (p:Z (Int×Int)) (s:Bool) (F:Z (Int×Int))=>I (p,s)) l d w ([]:Z (Int×Int)) G m) f ((a:Int),(r:Int),b)
  =match nZ l m d w n a r with|some q=>I (b++q,O)|none=>I ([],G)
 |n,a,r,0,b,_,hf,_,_=>J
 |0,a,r,f+1,b,B,hf,z,v=>by rw[aQ];simp only[xM];rw[ga];simp[nZ]
 |n+1,a,r,f+1,b,B,hf,z,v=>by
  have y:=(mem_iff.1 k).2;rw[aQ];simp only[xM,nZ];by_cases t:r=0;rw[ga,aI t];simp;have x:tmod (a:Int) 128=((a%128:Nat):Int):=Sd a 128;have h:=Xw j d ((a/128:Nat):Int) w;rw[iG,aK t,amn l d a w u j v,aa,nQ,x,aj (n:=128-((a%128:Nat):Int)) J J];obtain⟨c,A⟩:∃c,min (128-a%128) r=c:=⟨_,rfl⟩
  rw[A,show(if 128-((a%128:Nat):Int)<(r:Int) then 128-((a%128:Nat):Int) else(r:Int))=(c:Int) by split<;>omega];generalize H:zY l d ((a/128:Nat):Int) w=P at h⊢;by_cases e:0<=P;have h:=h e;simp only[aI e,ae];rw[aw (J:¬P*128+((a%128:Nat):Int)<0),M5 m _ _ J,L1 k e];simp only[ab,aa];by_cases g:P<(m.length:Int);rw[ax g,aI ⟨e,g⟩];simp only[ak,ab];rw[aU (by simp;omega),aj (n:=(a:Int)+(c:Int)) J J,aj (n:=(r:Int)-(c:Int)) J J,aw (J:¬(a:Int)+(c:Int)<0)];simp only[ab,aa];have i:=Q0 j u k d w n (a+c) (r-c) f (b++[(P*128+((a%128:Nat):Int),(c:Int))]) J J (by simp;omega) J;rw[(J:((a+c:Nat):Int)=(a:Int)+(c:Int)),(J:((r-c:Nat):Int)=(r:Int)-(c:Int))]at i;rw[i];cases nZ l m d w n (a+c) (r-c)with|none=>rfl|some q=>simp
  rw[aw g,nQ];rfl;simp only[aK e,ae];rw[nQ,iG];rfl
theorem R1 (x:gU l=O)(v:l.length<=10^9)(j:dC m=O)(d:Int)(w:Bool):∀(n a r f:Nat)(b:Z (Int×Int)),r<=n->n<f->b.length+n<=1000000->a<=9223372036854775807->
 aQ (oH (λ(F:Int) (H:Int) (k:dw) (o:dw)=>I (k,o,O)) (λ(K:Int) (L:Int) (p:dw) (s:dw) (t:Bool) (M:dw) (N:dw)=>I (p,s,t)) l d w ([]:dw) ([]:dw) G m) f ((a:Int),(r:Int),b.map (·.1),b.map (·.2))
  =match nZ l m d w n a r with|some q=>I ((b++q).map (·.1),(b++q).map (·.2),O)|none=>I ([],[],G)
 |n,a,r,0,b,_,hf,_,_=>J
 |0,a,r,f+1,b,E,hf,B,C=>by rw[aQ];simp only[oH];rw[ga];simp[nZ]
 |n+1,a,r,f+1,b,E,hf,B,C=>by
  have A:=(mem_iff.1 j).2;rw[aQ];simp only[oH,nZ];by_cases u:r=0;rw[ga,aI u];simp;have y:tdiv (a:Int) 128=((a/128:Nat):Int):=ald a 128;have z:tmod (a:Int) 128=((a%128:Nat):Int):=Sd a 128;have h:=Xw x d ((a/128:Nat):Int) w;rw[ax (J:(r:Int)>0),ax (J:(a:Int)>=0),aK u];simp only[ae];rw[nQ,y,z,aj (n:=((a/128:Nat):Int)) J J,aqV l _ _ w v,aa,nQ,aj (n:=128-((a%128:Nat):Int)) J J];obtain⟨c,D⟩:∃c,min (128-a%128) r=c:=⟨_,rfl⟩
  rw[D,show(if 128-((a%128:Nat):Int)<(r:Int) then 128-((a%128:Nat):Int) else(r:Int))=(c:Int) by split<;>omega];generalize Q:zY l d ((a/128:Nat):Int) w=P at h⊢;by_cases e:0<=P;have h:=h e;rw[aw (J:¬P<0),aj (n:=P*128) J J,Ny m _ _ J,agV j e];simp only[ab,aa];by_cases g:P<(m.length:Int);rw[ax g,aI ⟨e,g⟩];simp only[ak,ab];rw[aU (by simp;omega),aU (by simp;omega),aj (n:=P*128+((a%128:Nat):Int)) J J,aj (n:=(a:Int)+(c:Int)) J J,aj (n:=(r:Int)-(c:Int)) J J];have i:=R1 x v j d w n (a+c) (r-c) f (b++[(P*128+((a%128:Nat):Int),(c:Int))]) J J (by simp;omega) J;rw[(J:((a+c:Nat):Int)=(a:Int)+(c:Int)),(J:((r-c:Nat):Int)=(r:Int)-(c:Int)),df,df]at i;refine Eq.trans i ?_;cases nZ l m d w n (a+c) (r-c)with|none=>rfl|some q=>simp
  rw[aw g,nQ];rfl;rw[nQ,iG];rfl
def pO l m(d a n:Int)w:=
 bif gU l&&(dC m&&dF n 0 4096) then
  (bif n==0 then([],O) else bif decide (a<0) then([],G) else match nZ l m d w n.toNat a.toNat n.toNat with|some q=>(q,O)|none=>([],G))
 else([],G)
theorem ae0 l m d a n w(c:l.length<=10^9)(i:m.length<=10^9)(k:a<=9223372036854775807):FY l m d a n w=I (pO l m d a n w):=by
 have h:=dB;unfold FY pO;simp only[QV l c,P1 m i,cP,aa];cases e:gU l;rfl;cases f:dC m;rfl;cases g:dF n 0 4096;rfl;have hn:=aR.1 g;simp only[ak,ab,aa,bR,ae];cases j:n==0;case true=>rfl
 by_cases b:a<0;rw[ax b];rfl;rw[aw b];simp only[ab];obtain⟨a,rfl⟩:=ar (J:0<=a);obtain⟨n,rfl⟩:=ar hn.1;rw[Q0 e c f d w n a n fuel [] J J (by simp;omega) J];simp only[au];cases nZ l m d w n a n<;>rfl
theorem abh l m d a n w(e:l.length<=10^9)(k:m.length<=10^9)(p:a<=9223372036854775807):AJ l m d a n w=I ((pO l m d a n w).1.map (·.1),(pO l m d a n w).1.map (·.2),(pO l m d a n w).2):=by
 have j:=dB;unfold AJ pO;simp only[RV l e,LI m k,cz,aa];cases g:gU l;rfl;cases h:dC m;rfl;cases i:dF n 0 4096;rfl;have hn:=aR.1 i;simp only[ak,ab,aa,bR,ae];obtain⟨n,rfl⟩:=ar hn.1;cases b:((n:Int)==0)with
 |true=>
  have:n=0:=by simpa using b
  subst this;obtain⟨f,hf⟩:∃f,fuel=f+1:=⟨fuel-1,J⟩
  rw[hf,aQ];rfl
 |false=>
  have o:n≠0:=by simpa using b
  by_cases c:a<0;obtain⟨f,hf⟩:∃f,fuel=f+1:=⟨fuel-1,J⟩
  rw[ax c,hf,aQ];simp only[oH];rw[iG,ga];rfl;rw[aw c];simp only[ab];obtain⟨a,rfl⟩:=ar (J:0<=a);refine Eq.trans (R1 g e h d w n a n fuel [] J J (by simp;omega) J) ?_;simp only[au];cases nZ l m d w n a n<;>rfl
def Dj (x:Bytes)(o:Nat)(t:Bytes):Bytes:=x.take o++(t++x.drop (o+t.length))
theorem Ti (h:o+t.length<=x.length):(Dj x o t).length=x.length:=by grind[Dj]
theorem anj (x:Bytes)o(t:Bytes):aZ (KB (dU x) o (dU t))=Dj x o t:=by
 have e:KB (dU x) o (dU t)=dU (Dj x o t):=by grind[KB,Dj,dU,List.map_take,List.map_drop]
 rw[e,Ed]
theorem aqt (h:o+t.length<=x.length):wC x (o:Int) t=Dj x o t:=by grind[wC,gG,Dj]
def Ae:Nat->cL->Nat->Bytes->cL
 |0,m,_,_=>m
 |n+1,m,a,s=>if s.length=0 then m else
  Ae n (m.set (a/128) (Dj (m.getD (a/128) []) (a%128) (s.take (128-a%128)))) (a+min (128-a%128) s.length) (s.drop (128-a%128))
def JQ (m:cL):=(∀x∈m,x.length=128)/\m.length<=64
theorem tf:dC m=O↔JQ m:=mem_iff
theorem Tk (h:JQ m)(a:x.length=128):JQ (m.set p x):=by refine⟨λy b=>?_,by rw[aC];exact h.2⟩;rcases cG b with g|g;exact h.1 y g;rw[g];exact a
theorem L4 (h:JQ m)(e:s.length≠0)(c:a+s.length<=128*m.length): ∃(b:a/128<m.length),(m[a/128]'b).length=128/\(Dj (m[a/128]'b) (a%128) (s.take (128-a%128))).length=128:=by have b:a/128<m.length:=J;have d:=h.1 _ (az b);grind[Ti]
theorem HB:∀(n:Nat){m:cL}{a:Nat}{s:Bytes},JQ m->a+s.length<=128*m.length->JQ (Ae n m a s)/\(Ae n m a s).length=m.length
 |0,m,a,s,h,_=>⟨h,rfl⟩
 |n+1,m,a,s,h,b=>by rw[Ae];split;exact⟨h,rfl⟩;rename_i hs;obtain⟨d,e,c⟩:=L4 h hs b;rw[cU d];have:=HB n (m:=m.set (a/128) (Dj m[a/128] (a%128) (s.take (128-a%128)))) (a:=a+min (128-a%128) s.length) (s:=s.drop (128-a%128)) (Tk h c) (by rw[aC,bA];omega);rw[aC]at this;exact this
theorem O2 (K:Int->Bytes->cL->aS R)(b:cL->aS R)(i:∀a m,K a [] m=b m):∀(n:Nat)(m:cL)(a:Nat)(s:Bytes)(f:Nat),s.length<=n->n<f->JQ m->a+s.length<=128*m.length->
 aQ (rP K ([]:cL)) f ((a:Int),s,m)=b (Ae n m a s)
 |n,m,a,s,0,_,r,_,_=>J
 |n,m,a,s,f+1,hs,r,e,q=>by
  rw[aQ];simp only[rP];by_cases c:s.length=0;have:s=[]:=cB c;subst this;rw[aw aD,ab,i];cases n<;>simp[Ae];cases n with
  |zero=>omega
  |succ n=>
   obtain⟨j,t,u⟩:=L4 e c q;have p:=e.2;have k:tdiv (a:Int) 128=((a/128:Nat):Int):=ald a 128;have l:tmod (a:Int) 128=((a%128:Nat):Int):=Sd a 128;rw[iG,ae,nQ,k,l,aj (n:=((a/128:Nat):Int)) J J,aP j,aa,aU J,nQ];have g:sub (dU m[a/128]) ((a%128:Nat):Int) ((dU m[a/128]).length:Int)=I ((dU m[a/128]).drop (a%128)):=by rw[VH _ _ _ (by rw[Q8];omega) (bq _),cd (by rw[bA];exact bq _)]
   rw[g,aa,nQ,aa,aa];have hd:((dU m[a/128]).drop (a%128)).length=128-a%128:=by rw[bA,Q8,t]
   rw[hd];have d:s.drop (min (128-a%128) s.length)=s.drop (128-a%128):=by by_cases o:128-a%128<=s.length;rw[jF o];rw[lB J,dz (bq _),dz J]
   have h:sub s (((min (128-a%128) s.length:Nat)):Int) ((s.length:Int))=I (s.drop (128-a%128)):=by rw[<-d];unfold sub;rw[zip];simp
   rw[h,aa,aj (n:=(a:Int)+((min (128-a%128) s.length:Nat):Int)) J J,au,au,anj];rw[Ae,aK c,cU j,(J:(a:Int)+((min (128-a%128) s.length:Nat):Int)=((a+min (128-a%128) s.length:Nat):Int))];exact O2 K b i n _ _ _ f (by rw[bA];omega) J (Tk e u) (by rw[aC,bA];omega)
theorem Pd (K:Int->Bytes->cL->aS R)(d:cL->aS R)(l:∀a m,K a [] m=d m):∀(n:Nat)(m:cL)(a:Nat)(s:Bytes)(f:Nat),s.length<=n->n<f->JQ m->a+s.length<=128*m.length->
 aQ (si K ([]:cL)) f ((a:Int),s,m)=d (Ae n m a s)
 |n,m,a,s,0,_,u,_,_=>J
 |n,m,a,s,f+1,hs,u,i,t=>by
  rw[aQ];simp only[si];by_cases e:s.length=0;have:s=[]:=cB e;subst this;rw[aw aD,ab,l];cases n<;>simp[Ae];cases n with
  |zero=>omega
  |succ n=>
   obtain⟨o,v,w⟩:=L4 i e t;have r:=i.2;have p:tdiv (a:Int) 128=((a/128:Nat):Int):=ald a 128;have q:tmod (a:Int) 128=((a%128:Nat):Int):=Sd a 128;rw[iG,ae,nQ,nQ,nQ,p,q,aj (n:=((a/128:Nat):Int)) J J,aj (n:=128-((a%128:Nat):Int)) J J,aP o,aa];obtain⟨c,b⟩:∃c,min (128-a%128) s.length=c:=⟨_,rfl⟩
   rw[show(if 128-((a%128:Nat):Int)<(s.length:Int) then 128-((a%128:Nat):Int) else(s.length:Int))=(c:Int) by split<;>omega];have x:s.take c=s.take (128-a%128):=by by_cases g:128-a%128<=s.length;rw[<-b,jF g];rw[<-b,lB J,cd (bq _),cd J]
   have h:s.drop c=s.drop (128-a%128):=by by_cases g:128-a%128<=s.length;rw[<-b,jF g];rw[<-b,lB J,dz (bq _),dz J]
   have j:sub s 0 (c:Int)=I (s.take (128-a%128)):=by rw[<-x];unfold sub;rw[zip];simp
   have k:sub s (c:Int) (s.length:Int)=I (s.drop (128-a%128)):=by rw[<-h];unfold sub;rw[zip];simp
   rw[j,aa,Hf _ _ _ J,aa,aa,aa,k,aa,aqt (by rw[bp,v];omega),aj (n:=(a:Int)+(c:Int)) J J,au];rw[Ae,aK e,cU o,b,(J:(a:Int)+(c:Int)=((a+c:Nat):Int))];exact Pd K d l n _ _ _ f (by rw[bA];omega) J (Tk i w) (by rw[aC,bA];omega)
def oo m a s:=bif jj m a (s.length:Int) then(Ae s.length m a.toNat s,O) else(m,G)
theorem aih m a s(h:m.length<=10^9)(d:s.length<=10^9):yP m a s=I (oo m a s):=by have c:=dB;unfold yP oo;rw[jk m,aa,M5 m _ _ h,aa];cases b:jj m a (s.length:Int);rfl;simp only[jj,af,bO]at b;obtain⟨a,rfl⟩:=ar b.2.2.1;simp only[ak,ab,ae,au];exact O2 _ (λm=>I (m,O)) (λ_ _=>rfl) s.length m a s fuel (bq _) J (tf.1 b.1) J
theorem ajB m a s(h:m.length<=10^9)(d:s.length<=10^9):zM m a s=I (oo m a s):=by have c:=dB;unfold zM oo;rw[kG m,aa,Ny m _ _ h,aa];cases b:jj m a (s.length:Int);rfl;simp only[jj,af,bO]at b;obtain⟨a,rfl⟩:=ar b.2.2.1;simp only[ak,ab,ae,au];exact Pd _ (λm=>I (m,O)) (λ_ _=>rfl) s.length m a s fuel (bq _) J (tf.1 b.1) J
theorem NP m a s:(oo m a s).1.length=m.length:=by grind[oo,jj,HB,tf]
def Mm:Z (Int×Int)->cL->Bytes->cL
 |[],m,_=>m
 |p::q,m,s=>Mm q (oo m p.1 (s.take p.2.toNat)).1 (s.drop p.2.toNat)
theorem afK:∀(q:Z (Int×Int))(m:cL)(s:Bytes),(Mm q m s).length=m.length
 |[],m,s=>rfl
 |p::q,m,s=>by rw[Mm,afK q,NP]
def Zt (q:Z (Int×Int)):=(q.map (·.2)).sum
theorem ak9:∀(q:Z (Int×Int)),(∀p∈q,0<=p.2)->0<=Zt q
 |[],_=>gH _
 |p::q,h=>by have:=ak9 q (λx a=>h x (by simp[a]));grind[Zt]
theorem afP {p q}(a:∀x∈p::q,0<=x.2)(hs:(s.length:Int)=Zt (p::q)):0<=p.2/\p.2<=(s.length:Int)/\((s.drop p.2.toNat).length:Int)=Zt q:=by have c:=a p aD;have d:=ak9 q (λx b=>a x (by simp[b]));grind[Zt]
theorem abx {c}(a:0<=c)(b:c<=(s.length:Int)):sub s 0 c=I (s.take c.toNat):=by grind[sub]
theorem agD {c}(a:0<=c)(b:c<=(s.length:Int)):sub s c (s.length:Int)=I (s.drop c.toNat):=by simp_all[sub]
theorem Ud (K:Bytes->Int->cL->aS (cL×Bool))(e:∀s i m,K s i m=I (m,O)):∀(a b:Z (Int×Int))(m:cL)(s:Bytes)(f:Nat),a.length<f->b.length+a.length<=1000000->(∀x∈a,0<=x.2)->(s.length:Int)=Zt a->m.length<=10^9->s.length<=1000000->
 aQ (FX K (b++a) ((b++a).length:Int) ([]:cL)) f (s,(b.length:Int),m)=I (Mm a m s,O)
 |a,b,m,s,0,h,_,_,_,_,_=>J
 |[],b,m,s,f+1,_,_,_,_,_,_=>by rw[aQ];simp only[FX];rw[aw aD,ab,e];rfl
 |p::q,b,m,s,f+1,h,n,g,hs,j,u=>by obtain⟨c,d,k⟩:=afP g hs;simp only[bj]at h n;have l:b.length<(b++p::q).length:=aD;have o:(b++p::q)[b.length]=p:=aD;rw[aQ];simp only[FX];rw[ax (by simp;omega),aP l,o,aj J J];simp only[ae,aa,abx c d,agD c d,aih m _ _ j (show(s.take p.2.toNat).length<=10^9 by rw[bp];omega)];have t:=Ud K e q (b++[p]) (oo m p.1 (s.take p.2.toNat)).1 (s.drop p.2.toNat) f J (by simp;omega) (λx r=>g x (by simp[r])) k (by rw[NP];exact j) (by rw[bA];omega);grind[Mm]
theorem UG (K:Bytes->Int->cL->aS (cL×Bool))(e:∀s i m,K s i m=I (m,O)):∀(b a:Z (Int×Int))(m:cL)(s:Bytes)(f:Nat),b.length<f->a.length+b.length<=1000000->(∀x∈b,0<=x.2)->(s.length:Int)=Zt b->m.length<=10^9->s.length<=1000000->
 aQ (tt K ((a++b).map (·.1)) ((a++b).map (·.2)) ([]:cL)) f (s,(a.length:Int),m)=I (Mm b m s,O)
 |b,a,m,s,0,h,_,_,_,_,_=>J
 |[],a,m,s,f+1,_,_,_,_,_,_=>by rw[aQ];simp only[tt];rw[aw aD,ab,e];rfl
 |p::q,a,m,s,f+1,h,l,g,hs,j,t=>by
  obtain⟨c,d,k⟩:=afP g hs;simp only[bj]at h l;have r:a.length<(a++p::q).length:=aD;have u:(a++p::q)[a.length]=p:=aD;have i1:idx ((a++p::q).map (·.1)) (a.length:Int)=I p.1:=by grind[aP]
  have i2:idx ((a++p::q).map (·.2)) (a.length:Int)=I p.2:=by grind[aP]
  rw[aQ];simp only[tt];rw[ax (by simp;omega),i1,i2,aj J J];simp only[ae,aa,abx c d,agD c d,ajB m _ _ j (show(s.take p.2.toNat).length<=10^9 by rw[bp];omega)];have o:=UG K e q (a++[p]) (oo m p.1 (s.take p.2.toNat)).1 (s.drop p.2.toNat) f J (by simp;omega) (λx n=>g x (by simp[n])) k (by rw[NP];exact j) (by rw[bA];omega);grind[Mm]
theorem XA (l:Z cE)(m:cL)(d:Int)(w:Bool):∀(n a r:Nat)(q:Z (Int×Int)),r<=n->nZ l m d w n a r=I q->Zt q=(r:Int)/\(∀p∈q,0<=p.2)/\q.length<=n
 |0,a,r,q,e,h=>by simp only[nZ,bI]at h;subst h;exact⟨by show(0:Int)=_;omega,aD,aD⟩
 |n+1,a,r,q,e,h=>by simp only[nZ]at h;split at h;simp only[bI]at h;subst h;exact⟨by show(0:Int)=_;omega,aD,aD⟩;split at h;simp only[Option.map_eq_some_iff]at h;obtain⟨f,c,rfl⟩:=h;obtain⟨i1,i2,i3⟩:=XA l m d w n _ _ f J c;refine⟨?_,?_,by simp only[bj];omega⟩;simp only[Zt,gC,List.sum_cons]at i1⊢;rw[i1];omega;intro p b;rcases bW.1 b with rfl|b;show(0:Int)<=((min (128-a%128) r:Nat):Int);omega;exact i2 p b;cases h
theorem aa7 l m d a n w(h:(pO l m d a n w).2=O):Zt (pO l m d a n w).1=n/\(∀p∈(pO l m d a n w).1,0<=p.2)/\(pO l m d a n w).1.length<=4096/\n<=4096:=by
 unfold pO at h⊢;cases c:gU l&&(dC m&&dF n 0 4096)with|false=>grind|true=>?_
 rw[c]at h;simp only[af,aR]at c;simp only[ae]at h⊢;cases b:n==0 with
 |true=>
  have:n=0:=by simpa using b
  subst this;exact⟨rfl,aD,aD,J⟩
 |false=>rw[b]at h;simp only[ab]at h⊢;cases e:decide (a<0)with|true=>grind|false=>rw[e]at h;simp only[ab]at h⊢;cases f:nZ l m d w n.toNat a.toNat n.toNat with|none=>grind|some q=>obtain⟨i1,i2,i3⟩:=XA l m d w _ _ _ q (bq _) f;grind
def ko l m d a s w:=
 bif (pO l m d a (s.length:Int) w).2 then(Mm (pO l m d a (s.length:Int) w).1 m s,O) else(m,G)
theorem pe l m d a s w:(ko l m d a s w).1.length=m.length:=by grind[ko,afK]
theorem aeZ l m d a s w(i:l.length<=10^9)(c:m.length<=10^9)(g:a<=9223372036854775807):M7 l m d a s w=I (ko l m d a s w):=by have h:=dB;unfold M7 ko;rw[jk m,aa,ae0 l m d a _ w i c g,aa];have b:=aa7 l m d a (s.length:Int) w;generalize pO l m d a (s.length:Int) w=r at b⊢;cases j:r.2;rfl;obtain⟨e,f,k,n⟩:=b j;simp only[ak,ab,ae];exact Ud _ (λ_ _ _=>rfl) r.1 [] m s fuel J (by simp;omega) f e.symm c J
theorem He l m d a s(i:l.length<=10^9)(c:m.length<=10^9)(g:a<=9223372036854775807):rj l m d a s=I (ko l m d a s O):=by have h:=dB;unfold rj ko;rw[abh l m d a _ O i c g,aa,kG m,aa];have b:=aa7 l m d a (s.length:Int) O;generalize pO l m d a (s.length:Int) O=r at b⊢;cases j:r.2;rfl;obtain⟨e,f,k,n⟩:=b j;simp only[ak,ab,ae];exact UG _ (λ_ _ _=>rfl) r.1 [] m s fuel J (by simp;omega) f e.symm c J
theorem Lg l m d a s(c:l.length<=10^9)(e:m.length<=10^9)(b:a<=9223372036854775807):wk l m d a s=I (ko l m d a s O):=by simp_all[wk,aeZ]
def wrM (x:cE):cE:=(x.1,x.2.1,x.2.2.1,O)
theorem getD_map {i}(a:i<l.length):(l.map wrM).getD i acG=wrM (l.getD i acG):=by grind
theorem acH l:gU (l.map wrM)=gU l:=by
 unfold gU;rw[bt];congr 1;rw[fE,aL,aL];have d:∀i,i<l.length->acE (l.map wrM) i=acE l i:=by
  intro i a;unfold acE;rw[getD_map a];congr 1;rw[fE,aL,aL];constructor;intro h j c;have b:j<l.length:=by have:=bK.1 c;omega
  have:=h j c;rw[getD_map b]at this;exact this;intro h j c;have b:j<l.length:=by have:=bK.1 c;omega
  rw[getD_map b];exact h j c
 constructor;intro h i a;rw[<-d i (bK.1 a)];exact h i a;intro h i a;rw[d i (bK.1 a)];exact h i a
theorem aqp l d p:zY (l.map wrM) d p O=zY l d p false:=by grind[zY,acF,wrM,Ce,List.findIdx?_eq_some_iff_getElem]
theorem aaP (l:Z cE)(m:cL)(d:Int):∀n a r,nZ (l.map wrM) m d O n a r=nZ l m d G n a r
 |0,a,r=>rfl
 |n+1,a,r=>by simp only[nZ,aqp,aaP l m d n]
theorem asm l m d a s:ko (l.map wrM) m d a s O=ko l m d a s false:=by
 have e:pO (l.map wrM) m d a (s.length:Int) O=pO l m d a (s.length:Int) false:=by simp only[pO,acH,aaP]
 simp only[ko,e]
theorem Pc l m d a s(e:l.length<=10^9)(f:m.length<=10^9)(c:a<=9223372036854775807):yg l m d a s=I (ko l m d a s G):=by unfold yg;refine bJ (λi=>((l.take i).map wrM,(i:Int))) l.length J (λi g b=>?_) (λg=>?_);simp only[xi];rw[iG,aP b,aj J J];simp only[ae,aa];rw[aU (by simp;omega),aM b,df];rfl;simp only[xi];rw[ga,ab,bB,He _ m d a s (by rw[bt];exact e) f c,asm];rfl
theorem JM l m d a s(c:l.length<=10^9)(e:m.length<=10^9)(b:a<=9223372036854775807:=by omega):mN l m d a s=I (ko l m d a s G):=by simp_all[mN,aeZ]
def ot (d:KW):=dF d.1 0 3&&(dF d.2.1 0 3&&(dF d.2.2.1 0 65535&&(dF d.2.2.2.2.1 0 65535&&(dF d.2.2.2.2.2 0 65535&&dF d.2.2.2.1 0 4294967295))))
theorem aeR (d:KW):FU d=I (ot d):=by simp only[FU,cP,aa,ot];cases dF d.1 0 3<;>cases dF d.2.1 0 3<;>cases dF d.2.2.1 0 65535<;>cases dF d.2.2.2.2.1 0 65535<;>cases dF d.2.2.2.2.2 0 65535<;>rfl
theorem RP (d:KW):yc d=I (ot d):=by simp only[yc,cz,aa,ot];cases dF d.1 0 3<;>cases dF d.2.1 0 3<;>cases dF d.2.2.1 0 65535<;>cases dF d.2.2.2.2.1 0 65535<;>cases dF d.2.2.2.2.2 0 65535<;>rfl
def iM (d:KW):Bytes:=
 bif ot d then((((aZ [iQ d.1,iQ d.2.1]++aG d.2.2.1)++cx d.2.2.2.1)++aG d.2.2.2.2.1)++aG d.2.2.2.2.2)++cx 0 else []
theorem ac6 (d:KW):qd d=I (iM d):=by have b:=cj d.2.2.1;have c:=eG d.2.2.2.1;have e:=cj d.2.2.2.2.1;have f:=cj d.2.2.2.2.2;have g:=eG 0;have a:(aZ [iQ d.1,iQ d.2.1]).length=2:=rfl;unfold qd iM;rw[RP,aa];cases ot d;all_goals simp(disch:=omega)[kg,mc,aU]
theorem acr (d:KW):pY d=I (iM d):=by have b:=cj d.2.2.1;have c:=eG d.2.2.2.1;have e:=cj d.2.2.2.2.1;have f:=cj d.2.2.2.2.2;have g:=eG 0;have a:(aZ [iQ d.1,iQ d.2.1]).length=2:=rfl;unfold pY iM;rw[aeR,aa];cases ot d;all_goals simp(disch:=omega)[oR,BN,aU]
def rp r:=bif eQ r then V (r.2.1-cQ r) else 0
def ya r(c:Int):=bif !eQ r||decide (c<0) then-1 else r.1+tmod c r.2.1*16
theorem pF (h:eQ r=O):0<=r.1/\r.1<=130944/\(r.2.1=2\/r.2.1=4\/r.2.1=8\/r.2.1=16)/\0<=r.2.2.1/\r.2.2.1<=2*r.2.1-1/\0<=r.2.2.2/\r.2.2.2<=2*r.2.1-1:=by grind[eQ,aR,jN]
theorem KL r c: -1<=ya r c/\ya r c<=200000:=by unfold ya;cases a: !eQ r||decide (c<0)with|true=>grind|false=>simp only[dj,eH,cp]at a;have h:=pF a.1;grind
def dL l m d r s:=
 bif (rp r==0)||((s.length:Int) !=16) then(m,r,G) else
 bif !(ko l m d (ya r r.2.2.2) s O).2 then(m,r,G) else
 ((ko l m d (ya r r.2.2.2) s O).1,(r.1,r.2.1,r.2.2.1,tmod (r.2.2.2+1) (2*r.2.1)),O)
theorem aaV {a w}(h:(ko l m d a s w).2=G):(ko l m d a s w).1=m:=by grind[ko]
theorem Ov (r:rn):wy r=I (rp r):=by grind[wy,rp,F9,aa,IB]
theorem abl (r:rn)c:tN r c=I (ya r c):=by
 have a:=KL r c;unfold tN;rw[F9,aa];unfold ya at a⊢;cases d:eQ r;rfl;have h:=pF d;by_cases b:c<0;rw[ax b];rfl;rw[d,aw b]at a;rw[aw b];have e:0<=tmod c r.2.1/\tmod c r.2.1<r.2.1:=by rw[fD J];exact⟨Int.emod_nonneg _ J,jr _ J⟩
 simp only[ak,ab,aa,bL]at a⊢;rw[nQ,aj (n:=16*tmod c r.2.1) J J,aj J J];congr 1;omega
theorem UH l m d(r:rn)s(b:l.length<=10^9)(c:m.length<=10^9):DJ l m d r s=I (dL l m d r s):=by
 have e:=KL r r.2.2.2;unfold DJ dL;simp only[Ov,aa,abl,He l m d _ s b c (J:ya r r.2.2.2<=9223372036854775807),kG m (J:m.length<=1073741824)];cases f:rp r==0;case true=>rfl
 cases (s.length:Int) !=16;case true=>rfl
 have a:eQ r=true:=by grind[rp]
 have h:=pF a;grind[aa,aj]
theorem aam (r:rn):As r=I (rp r):=by grind[As,rp,FR,aa,Ia]
theorem aar (r:rn)c:sQ r c=I (ya r c):=by
 have a:=KL r c;unfold sQ;rw[FR,aa];unfold ya at a⊢;cases d:eQ r;rfl;have h:=pF d;by_cases b:c<0;rw[ax b];rfl;rw[d,aw b]at a;rw[aw b];have e:0<=tmod c r.2.1/\tmod c r.2.1<r.2.1:=by rw[fD J];exact⟨Int.emod_nonneg _ J,jr _ J⟩
 simp only[ak,ab,aa,bL]at a⊢;rw[nQ,aj (n:=tmod c r.2.1*16) J J,aj J J]
theorem Ue l m d(r:rn)s(b:l.length<=10^9)(c:m.length<=10^9):CX l m d r s=I (dL l m d r s):=by
 have e:=KL r r.2.2.2;unfold CX dL;simp only[aam,aa,aar,Lg l m d _ s b c (J:ya r r.2.2.2<=9223372036854775807),jk m (J:m.length<=1073741824)];cases f:rp r==0;case true=>rfl
 cases (s.length:Int) !=16;case true=>rfl
 have a:eQ r=true:=by grind[rp]
 have h:=pF a;grind[aa,aaV,aj]
theorem Jm {p}(h:eD p=O):0<=p.1/\p.1<=130944/\1<=p.2.1/\p.2.1<=512/\0<=p.2.2.1/\p.2.2.1<=16:=by grind[eD,aR]
def mU p i:=bif !eD p|| !dF i 0 (p.2.2.1-1) then-1 else p.1+i*p.2.1
theorem aj6 {p i}(c:eD p=O)(b:dF i 0 (p.2.2.1-1)=O):V (p.1+V (i*p.2.1))=p.1+i*p.2.1:=by have h:=Jm c;have a:=aR.1 b;have d:0<=i*p.2.1:=Int.mul_nonneg a.1 J;have e:i*p.2.1<=16*512:=Int.mul_le_mul J J J J;grind[aj]
theorem X4 p i(h:p.2.2.2.length<=10^9):md p i=I (mU p i):=by grind[md,mU,AB,aa,eD,aj,cz,dF,aj6]
theorem QR p i(h:p.2.2.2.length<=10^9):jd p i=I (mU p i):=by grind[jd,mU,CG,aa,eD,aj,cP,dF,aj6]
def upto n:=(range n).map Int.ofNat
theorem abC n:upto (n+1)=upto n++[(n:Int)]:=by simp[upto,ja]
theorem arc {n i}(h:i<n):(upto n).getD i 0=(i:Int):=by grind[upto]
theorem ai0 a b(n:Nat)(hn:n<=16):eD (a,b,(n:Int),upto n)=eD (a,b,(n:Int),[]):=by
 unfold eD;congr 3;have d:(range (upto n).length).all (H3 (n:Int) (upto n))=true:=by
  rw[aL];intro i c;have c:i<n:=by simpa[upto]using c
  simp only[H3,arc c,af,aR,aW];refine⟨J,?_⟩;rw[Bool.eq_false_iff,ne_eq,List.contains_iff_mem];intro e;simp only[upto,<-List.map_take,cX]at e;grind
 rw[d];rfl
def iO (a b n:Int):gL×Bool:=bif eD (a,b,n,[]) then((a,b,n,upto n.toNat),O) else((0,0,0,[]),G)
theorem Uc a b n:CR a b n=I (iO a b n):=by
 unfold CR iO;rw[CG _ aD,aa];cases e:eD (a,b,n,[]);rfl;have c:=Jm e;obtain⟨n,rfl⟩:=ar (show 0<=n from c.2.2.2.2.1);have d:n<=16:=by have:=c.2.2.2.2.2;simp only at this;omega
 simp only[ak,ab,ae,au];refine bJ (λi=>((i:Int),a,b,(n:Int),upto i)) n J (λi f g=>?_) (λf=>?_);simp only[AW];rw[iG,aU (by simp[upto];omega),aj J J,abC];rfl;simp only[AW];rw[ga];rfl
theorem UF a b n:DF a b n=I (iO a b n):=by
 have h:=dB;unfold DF iO;by_cases hn:0<=n/\n<=16;obtain⟨n,rfl⟩:=ar hn.1;have c:n<=16:=J;refine bJ (λi=>((i:Int),a,b,(n:Int),upto i)) n J (λi k l=>?_) (λk=>?_);simp only[vN];rw[ax (J:(i:Int)<n),ax (J:(n:Int)<=16)];simp only[ae,aa];rw[aU (by simp[upto];omega),aj J J,abC];rfl;simp only[vN];rw[aw (J:¬(n:Int)<n)];simp only[ab,aa,AB (a,b,(n:Int),upto n) (show(upto n).length<=10^9 by simp[upto];omega),ai0 a b n c,au];cases eD (a,b,(n:Int),[])<;>rfl;have e:eD (a,b,n,[])=false:=by cases j:eD (a,b,n,[])with|false=>rfl|true=>have:=Jm j;exact absurd ⟨this.2.2.2.2.1,this.2.2.2.2.2⟩ hn
 obtain⟨f,hf⟩:∃f,fuel=f+1:=⟨fuel-1,J⟩
 rw[hf,aQ];simp only[vN];have g:(cond (ay ((0:Int)<n)) (I (ay (n<=16))) (I G))=I false:=by by_cases d:(0:Int)<n;rw[ax d,ga];rfl;rw[aw d];rfl
 rw[g];simp only[aa,ab,AB (a,b,n,[]) (aD:([]:dw).length<=10^9),e];rfl
def iB (p:gL)(b:Int):Bytes:=iM (3,0,p.2.1,mU p b,0,b)
def nG (l:Z cE)(d:Int)(p:gL):dw->cL->rn->Nat×cL×rn
 |[],m,r=>(0,m,r)
 |b::q,m,r=>bif (dL l m d r (iB p b)).2.2 then
   ((nG l d p q (dL l m d r (iB p b)).1 (dL l m d r (iB p b)).2.1).1+1,(nG l d p q (dL l m d r (iB p b)).1 (dL l m d r (iB p b)).2.1).2)
  else(0,m,r)
theorem Dr l m d r s:(dL l m d r s).1.length=m.length:=by grind[dL,pe]
theorem SH (l:Z cE)(d:Int)(p:gL):∀(q:dw)(m:cL)(r:rn),(nG l d p q m r).2.1.length=m.length/\(nG l d p q m r).1<=q.length
 |[],m,r=>⟨rfl,bq _⟩
 |b::q,m,r=>by rw[nG];cases (dL l m d r (iB p b)).2.2 with|false=>grind|true=>have:=SH l d p q (dL l m d r (iB p b)).1 (dL l m d r (iB p b)).2.1;grind[Dr]
theorem aej r:0<=rp r:=by unfold rp;cases a:eQ r with|false=>exact gH _|true=>have h:=pF a;grind[eQ,cQ,aj]
theorem acQ (h:¬rp r>0):dL l m d r s=(m,r,G):=by have a:=aej r;grind[dL]
theorem QT (K:Int->Int->rn->cL->aS R)(g:Nat->rn->cL->aS R)(h:∀(c:Nat) i r m,K (c:Int) i r m=g c r m)(l:Z cE)(d:Int)(p t u:gL)(s:p.2.2.2.length<=10^9)(k:l.length<=10^9):∀(e a:dw)(m:cL)(r:rn)(f:Nat),e.length<f->a.length+e.length<=10^9->m.length<=10^9->
 aQ (sJ K l d (a++e) ((a++e).length:Int) p ([]:cL) (0,0,0,0) t u) f ((a.length:Int),(a.length:Int),r,m)=g (a.length+(nG l d p e m r).1) (nG l d p e m r).2.2 (nG l d p e m r).2.1
 |e,a,m,r,0,j,_,_=>J
 |[],a,m,r,f+1,_,_,_=>by rw[aQ];simp only[sJ];rw[aw aD,ab,h];rfl
 |b::q,a,m,r,f+1,j,x,o=>by simp only[bj]at j x;have w:a.length<(a++b::q).length:=aD;have v:(a++b::q)[a.length]=b:=aD;rw[aQ];simp only[sJ];rw[ax (by simp;omega),aP w,v];simp only[ae,aa,QR p b s,acr,Ue l m d r _ k o];rw[show iM (3,0,p.2.1,mU p b,0,b)=iB p b from rfl,nG];cases z:(dL l m d r (iB p b)).2.2 with|false=>grind|true=>simp only[ak,ab,ae];rw[aj (n:=(a.length:Int)+1) J J];have y:=QT K g h l d p t u s k q (a++[b]) (dL l m d r (iB p b)).1 (dL l m d r (iB p b)).2.1 f J (by simp;omega) (by rw[Dr];exact o);grind
theorem RR (K:Int->rn->cL->gL->aS R)(l:Z cE)(d:Int)(p o:gL)(k:p.2.2.2.length<=10^9)(i:l.length<=10^9)(A B C:Int):∀(a:dw)(c:Nat)(m:cL)(r:rn)(f:Nat),a.length<f->c+a.length<=10^9->m.length<=10^9->
 aQ (tz K l d p ([]:cL) (0,0,0,0) o) f ((c:Int),r,m,A,B,C,a)=K ((c+(nG l d p a m r).1:Nat):Int) (nG l d p a m r).2.2 (nG l d p a m r).2.1 (A,B,C,a.drop (nG l d p a m r).1)
 |a,c,m,r,0,h,_,_=>J
 |[],c,m,r,f+1,_,_,_=>by
  rw[aQ];simp only[tz,Ov,aa];have s:(cond (ay (rp r>0)) (I (ay ((([]:dw).length:Int)>0))) (I G))=I false:=by cases decide (rp r>0)<;>rfl
  rw[s];rfl
 |b::q,c,m,r,f+1,h,u,j=>by
  simp only[bj]at h u;rw[aQ];simp only[tz,Ov,aa];by_cases g:rp r>0;rw[ax g,ax (aD:(((b::q).length:Nat):Int)>0)];have t:idx (b::q) 0=I b:=rfl;have v:sub (b::q) 1 ((b::q).length:Int)=I q:=by unfold sub;rw[aI (by simp;omega)];simp
  simp only[ae,aa,t,X4 p b k,ac6,UH l m d r _ i j];rw[show iM (3,0,p.2.1,mU p b,0,b)=iB p b from rfl,nG];cases w:(dL l m d r (iB p b)).2.2 with|false=>rfl|true=>simp only[ak,ab,ae,v,aa];rw[fi J,aj (n:=(c:Int)+1) J J,bF];have e:=RR K l d p o k i A B C q (c+1) (dL l m d r (iB p b)).1 (dL l m d r (iB p b)).2.1 f J J (by rw[Dr];exact j);rw[(J:((c+1:Nat):Int)=(c:Int)+1)]at e;refine Eq.trans e ?_;rw[(J:c+1+(nG l d p q (dL l m d r (iB p b)).1 (dL l m d r (iB p b)).2.1).1=c+((nG l d p q (dL l m d r (iB p b)).1 (dL l m d r (iB p b)).2.1).1+1))];rfl
  rw[aw g,nG,acQ g];rfl
def sB l m d r p:=
 bif !eQ r|| !eD p then(m,r,p,0) else
 ((nG l d p p.2.2.2 m r).2.1,(nG l d p p.2.2.2 m r).2.2,(p.1,p.2.1,p.2.2.1,p.2.2.2.drop (nG l d p p.2.2.2 m r).1),((nG l d p p.2.2.2 m r).1:Int))
theorem aeU l m d(r:rn)p(h:l.length<=10^9)(i:m.length<=10^9)(a:p.2.2.2.length<=10^9):mx l m d r p=I (sB l m d r p):=by have g:=dB;unfold mx sB;simp only[jk m (J:m.length<=1073741824),B7 p a,FR,CG p a,aa];cases eQ r;rfl;cases eD p;rfl;simp only[ak,ab,aa,bL];have f:=(SH l d p p.2.2.2 m r).2;refine(QT _ (λc r m=>U (sub p.2.2.2 (c:Int) (p.2.2.2.length:Int)) λe=>U (iT e) λb=>I (m,r,(p.1,p.2.1,p.2.2.1,b),(c:Int))) (λ_ _ _ _=>rfl) l d p _ p a h p.2.2.2 [] m r fuel J (by simp;omega) i).trans ?_;grind[VH,aa,qj]
theorem agj l m d(r:rn)p(c:l.length<=10^9)(e:m.length<=10^9)(a:p.2.2.2.length<=10^9):AE l m d r p=I (sB l m d r p):=by have b:=dB;unfold AE sB;simp only[kG m (J:m.length<=1073741824),Et p a,F9,AB p a,aa];cases eQ r;rfl;cases eD p;rfl;simp only[ak,ab,aa,bL];refine(RR _ l d p _ a c p.1 p.2.1 p.2.2.1 p.2.2.2 0 m r fuel J J e).trans ?_;rw[cR]
theorem Xz (l:Z cE)(m:cL)(d:Int)(w:Bool):∀(n a r:Nat)(q:Z (Int×Int)),nZ l m d w n a r=I q->q.length<=n
 |0,a,r,q,h=>by simp only[nZ,bI]at h;subst h;simp
 |n+1,a,r,q,h=>by simp only[nZ]at h;split at h;simp only[bI]at h;subst h;simp;split at h;simp only[Option.map_eq_some_iff]at h;obtain⟨c,b,rfl⟩:=h;have:=Xz l m d w n _ _ c b;simp only[bj];omega;cases h
theorem Ol l m d a n w:(pO l m d a n w).1.length<=4096:=by
 unfold pO;cases b:gU l&&(dC m&&dF n 0 4096);simp;simp only[af,aR]at b;simp only[ae];cases n==0;case true=>simp
 cases decide (a<0);case true=>simp
 simp only[ab];split;rename_i q c;have:=Xz _ _ _ _ _ _ _ _ c;show q.length<=4096;omega;simp
def nb m(p:Int×Int):=bif jj m p.1 p.2 then F5 m p.1.toNat p.2.toNat else []
theorem JS m p:(nb m p).length<=8192:=by grind[nb,jj,aqx,mem_iff]
theorem xX (m:cL):∀q:Z (Int×Int),(q.flatMap (nb m)).length<=8192*q.length
 |[]=>aD
 |p::q=>by have:=xX m q;grind[JS]
def sA (l:Z cE)(m:cL)(d a n:Int):Bytes×Bool:=
 bif (pO l m d a n G).2 then((pO l m d a n G).1.flatMap (nb m),O) else([],G)
theorem QK {β:Type}(g:α->Z β)(l:Z α)i a:(l.take (i+1)).flatMap g=(l.take i).flatMap g++g l[i]:=by grind[aM]
theorem Jd l m d a n(j:l.length<=10^9)(b:m.length<=10^9)(g:a<=9223372036854775807):uq l m d a n=I (sA l m d a n):=by
 unfold uq sA;rw[ae0 l m d a n G j b g,aa];have f:=Ol l m d a n G;generalize pO l m d a n G=r at f⊢;cases p:r.2;rfl;simp only[ak,ab,ae];refine(bJ (λi=>((r.1.take i).flatMap (nb m),(i:Int))) r.1.length J (λi k h=>?_) (λk=>?_));simp only[AQ];rw[iG,aP h,aj J J];have e:vA m r.1[i].1 r.1[i].2=I (nb m r.1[i],jj m r.1[i].1 r.1[i].2):=by rw[apP m _ _ b,nb];cases jj m r.1[i].1 r.1[i].2<;>rfl
 have c:=xX m (r.1.take i);have o:=JS m r.1[i];simp only[ae,aa,e];rw[aU (by rw[bp]at c;omega),<-QK];rfl;simp only[AQ];rw[ga,bB];rfl
theorem Ju l m d a n(j:l.length<=10^9)(c:m.length<=10^9)(h:a<=9223372036854775807):uP l m d a n=I (sA l m d a n):=by
 unfold uP sA;rw[abh l m d a n G j c h,aa];have g:=Ol l m d a n G;generalize pO l m d a n G=r at g⊢;cases p:r.2;rfl;simp only[ak,ab,ae];refine(bJ (λi=>((r.1.take i).flatMap (nb m),(i:Int))) r.1.length J (λi k b=>?_) (λk=>?_));simp only[Bf];have i1:idx (r.1.map (·.1)) (i:Int)=I r.1[i].1:=by rw[aP (by simpa using b),List.getElem_map]
 have i2:idx (r.1.map (·.2)) (i:Int)=I r.1[i].2:=by rw[aP (by simpa using b),List.getElem_map]
 rw[ax (by rw[bt];omega),i1,i2,aj J J];have e:vP m r.1[i].1 r.1[i].2=I (nb m r.1[i],jj m r.1[i].1 r.1[i].2):=by rw[aqY m _ _ c,nb];cases jj m r.1[i].1 r.1[i].2<;>rfl
 have f:=xX m (r.1.take i);have o:=JS m r.1[i];simp only[ae,aa,e];rw[aU (by rw[bp]at f;omega),<-QK];rfl;simp only[Bf];rw[aw (by rw[bt];omega),bB];rfl
theorem MF l m d a n:(sA l m d a n).1.length<=100000000:=by have c:=Ol l m d a n G;have b:=xX m (pO l m d a n G).1;grind[sA]
def ql s:=
 bif ((s.length:Int) !=16)||decide (eK s 12>1) then((0,0,0,0,0),0,G) else((dg s 0,dg s 2,dg s 4,dg s 6,eK s 8),eK s 12,O)
theorem ah2 s(h:s.length<=10^9):pA s=I (ql s):=by
 unfold pA ql;cases (s.length:Int) !=16;case true=>rfl
 simp only[Em s _ h,En s _ h,aa,ab,cq];grind
theorem ajn s(h:s.length<=10^9):pG s=I (ql s):=by
 unfold pG ql;cases (s.length:Int) !=16;case true=>rfl
 simp only[yY s _ h,EH s _ h,aa,ab,cq];grind
def Io (q:J6):Int:=bif decide (q.2.2<q.2.1) then 1 else 0
theorem aao (q:J6):Da q=I (Io q):=by grind[Da,Io]
theorem ph {q}(h:iE q=O):0<=q.1/\q.1<=130944/\(q.2.1=2\/q.2.1=4\/q.2.1=8\/q.2.1=16)/\0<=q.2.2/\q.2.2<=2*q.2.1-1:=by grind[iE,aR,HK,jN]
theorem abi q(h:iE q=O):AK q=I (Io q):=by
 obtain⟨_,_,b,c,d⟩:=ph h;have e:tdiv q.2.2 q.2.1=if q.2.2<q.2.1 then 0 else 1:=by grind
 unfold AK Io;rw[nQ,e];by_cases a:q.2.2<q.2.1;rw[aI a,ax a];rfl;rw[aK a,aw a];rfl
def pQ (q:J6):=q.1+tmod q.2.2 q.2.1*16
theorem VE {q}(h:iE q=O):0<=tmod q.2.2 q.2.1/\tmod q.2.2 q.2.1<16:=by obtain⟨_,_,a,b,c⟩:=ph h;grind
theorem aas q(h:iE q=O):sV q=I (pQ q):=by obtain⟨a,b,c,d,e⟩:=ph h;grind[sV,pQ,aj]
def aqf (q:J6):=(q.1,q.2.1,tmod (q.2.2+1) (2*q.2.1))
def Og l m d q:=
 iE q&&((sA l m d (pQ q) 16).2&&((ql (sA l m d (pQ q) 16).1).2.2&&((ql (sA l m d (pQ q) 16).1).2.1==Io q)))
def mm l m d q:=
 bif Og l m d q then((ql (sA l m d (pQ q) 16).1).1,aqf q,O) else((0,0,0,0,0),q,G)
theorem apM l m d(q:J6)(b:l.length<=10^9)(c:m.length<=10^9):rM l m d q=I (mm l m d q):=by unfold rM mm Og;rw[SV q,aa];cases a:iE q;rfl;obtain⟨e,f,g,h,i⟩:=ph a;have hs:=VE a;have hd:=MF l m d (pQ q) 16;simp only[ak,ab,aas q a,aa,Jd l m d (pQ q) 16 b c (by unfold pQ;omega),bg];cases (sA l m d (pQ q) 16).2;rfl;simp only[ak,ab,ah2 _ (bf hd J),aa,bg];cases (ql (sA l m d (pQ q) 16).1).2.2;rfl;simp only[ak,ab,aao,aa,bg,bne];cases (ql (sA l m d (pQ q) 16).1).2.1==Io q;rfl;simp only[ak,ab,ae];rw[aj (n:=2*q.2.1) J J,nQ,aj (n:=q.2.2+1) J J];rfl
theorem aqU l m d(q:J6)(c:l.length<=10^9)(e:m.length<=10^9):sc l m d q=I (mm l m d q):=by
 unfold sc mm Og;rw[TD q,aa];cases a:iE q;rfl;obtain⟨f,g,h,i,j⟩:=ph a;have hs:=VE a;have hd:=MF l m d (pQ q) 16;have b:V (q.1+V (16*tmod q.2.2 q.2.1))=pQ q:=by grind[aj,pQ]
 simp only[ak,ab];rw[nQ,b];simp only[Ju l m d (pQ q) 16 c e (by unfold pQ;omega),aa,bg,ajn _ (bf hd J),abi q a,bne];cases (sA l m d (pQ q) 16).2;rfl;cases (ql (sA l m d (pQ q) 16).1).2.2;rfl;cases (ql (sA l m d (pQ q) 16).1).2.1==Io q;rfl;simp only[ak,ab,ae,aa,bg];rw[aj (n:=2*q.2.1) J J,nQ,aj (n:=q.2.2+1) J J];rfl
def N9 l m d r:=KI r&&(mm l m d r.2.2.1).2.2
theorem aj7 p i:mU p i= -1\/(0<=mU p i/\mU p i<=200000):=by unfold mU;cases c:eD p;exact .inl rfl;cases b:dF i 0 (p.2.2.1-1);exact .inl rfl;have h:=Jm c;have a:=aR.1 b;have d:0<=i*p.2.1:=Int.mul_nonneg a.1 J;have e:i*p.2.1<=16*512:=Int.mul_le_mul J J J J;grind
def ahR l m d a n:=(sA l m d a n).2&&((xW (sA l m d a n).1).2==0)
theorem arR {n}:ahR l m d (-1) n=false:=by unfold ahR sA pO;cases gU l&&(dC m&&dF n 0 4096);rfl;simp only[ae];cases n==0 with|true=>rfl|false=>rfl
def xU (l:Z cE)(m:cL)(d:Int)(s:Z Stream×dq×gL):Z Stream×dq×gL:=
 ((bif ahR l m d (mU s.2.2 (mm l m d s.2.1.2.2.1).1.1) (mm l m d s.2.1.2.2.1).1.2.1 then jX s.1 (xW (sA l m d (mU s.2.2 (mm l m d s.2.1.2.2.1).1.1) (mm l m d s.2.1.2.2.1).1.2.1).1).1 else s.1),
   (s.2.1.1,s.2.1.2.1,(mm l m d s.2.1.2.2.1).2.1,s.2.1.2.2.2),(H4 s.2.2 [(mm l m d s.2.1.2.2.1).1.1]).1)
def jq (l:Z cE)(m:cL)(d:Int):Nat->Z Stream×dq×gL->Nat×(Z Stream×dq×gL)
 |0,s=>(0,s)
 |k+1,s=>bif !(mm l m d s.2.1.2.2.1).2.2 then(0,s) else((jq l m d k (xU l m d s)).1+1,(jq l m d k (xU l m d s)).2)
structure Mr (n:Nat) (s:List Stream×dq×gL):Prop where
 st:cJ n (.sl mV) s.1
 pl:s.2.2.2.2.2.length<=n
theorem aep p l:(H4 p l).1.2.2.2.length<=p.2.2.2.length+l.length:=by grind[H4,kU]
theorem Nk {s n}(h:Mr n s):Mr (n+322) (xU l m d s):=by
 refine⟨?_,?_⟩;unfold xU;cases ahR l m d (mU s.2.2 (mm l m d s.2.1.2.2.1).1.1) (mm l m d s.2.1.2.2.1).1.2.1 with|false=>exact h.st.mono|true=>exact QB h.st
 have:=aep s.2.2 [(mm l m d s.2.1.2.2.1).1.1];have a:=h.pl;show(H4 s.2.2 [(mm l m d s.2.1.2.2.1).1.1]).1.2.2.2.length<=_;simp only[aO]at this;omega
theorem QX (K:Z Stream->Int->dq->gL->aS R)(l:Z cE)(m:cL)(d:Int)(N:Nat)(q:N<=1000)(j:cL)(o:dq)(p:gL)(e:l.length<=10^9)(g:m.length<=10^9):∀(k i:Nat)(s:Z Stream×dq×gL)(f:Nat),i+k=N->k<f->Mr (500000000+322*i) s->
 aQ (qv K l d (N:Int) j o p m) f (s.1,(i:Int),s.2.1,s.2.2)=K (jq l m d k s).2.1 ((i+(jq l m d k s).1:Nat):Int) (jq l m d k s).2.2.1 (jq l m d k s).2.2.2
 |k,i,s,0,_,hf,_=>J
 |0,i,s,f+1,r,hf,z=>by rw[aQ];simp only[qv];rw[ga,ab];rfl
 |k+1,i,s,f+1,r,hf,z=>by have h:cJ 900000000 (.sl mV) s.1:=z.st.mono;have u:s.2.2.2.2.2.length<=900000000:=bf z.pl J;rw[aQ];simp only[qv];rw[iG];simp only[ae,apM l m d _ e g,aa,jq];cases t:(mm l m d s.2.1.2.2.1).2.2 with|false=>rfl|true=>have b:=QX K l m d N q j o p e g k (i+1) (xU l m d s) f J J ((Nk z).st.mono|>λa=>⟨a,bf (Nk z).pl J⟩);rw[(J:i+1+(jq l m d k (xU l m d s)).1=i+((jq l m d k (xU l m d s)).1+1))]at b;simp only[ak,ab];rw[<-b];unfold xU;generalize mm l m d s.2.1.2.2.1=c;have v:=aj7 s.2.2 c.1.1;have hd:=MF l m d (mU s.2.2 c.1.1) c.1.2.1;simp only[QR _ _ (J:s.2.2.2.2.2.length<=10^9),Jd l m d _ c.1.2.1 e g (J:mU s.2.2 c.1.1<=9223372036854775807),aa,Od _ (bf hd J),acp _ _ h,W3 s.2.2 [c.1.1] (J:s.2.2.2.2.2.length+1<=10^9)];rw[aj (n:=(i:Int)+1) J J,(J:((i+1:Nat):Int)=(i:Int)+1)];grind[ahR]
theorem RY (K:Z Stream->Int->dq->gL->aS R)(l:Z cE)(m:cL)(d:Int)(N:Nat)(r:N<=1000)(o:cL)(p:dq)(q:gL)(g:l.length<=10^9)(h:m.length<=10^9):∀(k i:Nat)(s:Z Stream×dq×gL)(f:Nat),i+k=N->k<f->Mr (500000000+322*i) s->
 aQ (qN K l d (N:Int) m o p q) f (s.1,(i:Int),s.2.1,s.2.2)=K (jq l m d k s).2.1 ((i+(jq l m d k s).1:Nat):Int) (jq l m d k s).2.2.1 (jq l m d k s).2.2.2
 |k,i,s,0,_,hf,_=>J
 |0,i,s,f+1,t,hf,z=>by rw[aQ];simp only[qN];rw[ga,ab];rfl
 |k+1,i,s,f+1,t,hf,z=>by have j:cJ 900000000 (.sl mV) s.1:=z.st.mono;have v:s.2.2.2.2.2.length<=900000000:=bf z.pl J;rw[aQ];simp only[qN];rw[iG];simp only[ae,aqU l m d _ g h,aa,jq];cases u:(mm l m d s.2.1.2.2.1).2.2 with|false=>rfl|true=>have b:=RY K l m d N r o p q g h k (i+1) (xU l m d s) f J J ((Nk z).st.mono|>λa=>⟨a,bf (Nk z).pl J⟩);rw[(J:i+1+(jq l m d k (xU l m d s)).1=i+((jq l m d k (xU l m d s)).1+1))]at b;simp only[ak,ab];rw[<-b];unfold xU;generalize mm l m d s.2.1.2.2.1=c;have e:=aj7 s.2.2 c.1.1;have hd:=MF l m d (mU s.2.2 c.1.1) c.1.2.1;simp only[X4 _ _ (J:s.2.2.2.2.2.length<=10^9),Ju l m d _ c.1.2.1 g h (J:mU s.2.2 c.1.1<=9223372036854775807),aa,Ox _ (bf hd J),RO _ _ j,X7 s.2.2 [c.1.1] (J:s.2.2.2.2.2.length+1<=10^9)];rw[aj (n:=(i:Int)+1) J J,(J:((i+1:Nat):Int)=(i:Int)+1)];rcases e with e|e;rw[e,arR];rfl;rw[ax (J:mU s.2.2 c.1.1>=0)];unfold ahR;cases (sA l m d (mU s.2.2 c.1.1) c.1.2.1).2<;>cases (xW (sA l m d (mU s.2.2 c.1.1) c.1.2.1).1).2==0<;>rfl
theorem Rs {l:Z cE}{m:cL}{d:Int}:∀(k:Nat){s:Z Stream×dq×gL}{n:Nat},Mr n s->Mr (n+322*k) (jq l m d k s).2
 |0,s,n,h=>h
 |k+1,s,n,h=>by rw[jq];cases (mm l m d s.2.1.2.2.1).2.2 with|false=>exact⟨h.st.mono,bf h.pl J⟩|true=>have:=Rs (l:=l) (m:=m) (d:=d) k (Nk (l:=l) (m:=m) (d:=d) h);grind
def iU l m d rx a b n:=
 bif !KI rx||(!eD a|| !dF n 0 1000) then(m,rx,a,b,0) else
 ((sB l m d (jq l m d n.toNat (b,rx,a)).2.2.1.1 (jq l m d n.toNat (b,rx,a)).2.2.2).1,
   ((sB l m d (jq l m d n.toNat (b,rx,a)).2.2.1.1 (jq l m d n.toNat (b,rx,a)).2.2.2).2.1,(jq l m d n.toNat (b,rx,a)).2.2.1.2),
   (sB l m d (jq l m d n.toNat (b,rx,a)).2.2.1.1 (jq l m d n.toNat (b,rx,a)).2.2.2).2.2.1,(jq l m d n.toNat (b,rx,a)).2.1,((jq l m d n.toNat (b,rx,a)).1:Int))
theorem aeY l m d rx a(b:Z Stream)n(c:l.length<=10^9)(e:m.length<=10^9)(j:a.2.2.2.length<=500000000)(f:cJ 500000000 (.sl mV) b):CU l m d rx a b n=I (iU l m d rx a b n):=by
 have g:=dB;have k:b.length<=500000000:=f.1;unfold CU iU;simp only[jk m (J:m.length<=1073741824),B7 a (J:a.2.2.2.length<=10^9),Gk b,acy,CG a (J:a.2.2.2.length<=10^9),cP,aa];cases KI rx;rfl;cases eD a;rfl;cases i:dF n 0 1000;rfl;have h:=aR.1 i;obtain⟨n,rfl⟩:=ar h.1;simp only[ak,ab,aa,bL,au];have z:Mr (500000000+322*0) (b,rx,a):=⟨f,j⟩
 have o:=Rs (l:=l) (m:=m) (d:=d) n z;refine(QX _ l m d n J _ _ _ c e n 0 (b,rx,a) fuel J J z).trans ?_;rw[cR];simp only[aeU l m d _ _ c e (show(jq l m d n (b,rx,a)).2.2.2.2.2.2.length<=10^9 from bf o.pl J),aa]
theorem agr l m d rx a(b:Z Stream)n(c:l.length<=10^9)(e:m.length<=10^9)(j:a.2.2.2.length<=500000000)(f:cJ 500000000 (.sl mV) b):tM l m d rx a b n=I (iU l m d rx a b n):=by
 have g:=dB;have k:b.length<=500000000:=f.1;unfold tM iU;rw[fi J];simp only[bF,Et a (J:a.2.2.2.length<=10^9),kG m (J:m.length<=1073741824),adf,AB a (J:a.2.2.2.length<=10^9),cz,aa];cases KI rx;rfl;cases eD a;rfl;cases i:dF n 0 1000;rfl;have h:=aR.1 i;obtain⟨n,rfl⟩:=ar h.1;simp only[ak,ab,aa,bL,au];have z:Mr (500000000+322*0) (b,rx,a):=⟨f,j⟩
 have o:=Rs (l:=l) (m:=m) (d:=d) n z;refine(RY _ l m d n J _ _ _ c e n 0 (b,rx,a) fuel J J z).trans ?_;rw[cR];simp only[agj l m d _ _ c e (show(jq l m d n (b,rx,a)).2.2.2.2.2.2.length<=10^9 from bf o.pl J),aa]
def iL (i:Nat):=1280+(i:Int)*1792
theorem aj1 {i:Nat}(h:i<=8):V (1280+V ((i:Int)*1792))=iL i:=by rw[aj (n:=(i:Int)*1792) J J,aj J J];rfl
theorem aeN (i:Nat)(h:i<=8):xN (i:Int)=I (iL i):=by rw[xN,aj1 h]
theorem uG a b n(h:n<=1000:=by omega):(iO a b n).1.2.2.2.length<=1000:=by grind[iO,upto]
def Js (i:Nat):dq:=((iL i,4,0,0),(iL i+64,4,0),(iL i+64,4,0),((0,0,0,0,0,0,0,0,0,0,0,0,0,0,0,([]:Bytes)),0,0),G,0)
theorem amo (i:Nat)(h:i<=8):Es (i:Int)=I (Js i,(iO (iL i+128) 384 4).1):=by have a:iL i=1280+(i:Int)*1792:=rfl;simp only[Es,aeN i h,aa];rw[aj (n:=iL i+128) J J,aj (n:=iL i+64) J J,Uc];rfl
def D0:eT:=((0,16,0,0),(iO 256 128 8).1,([]:Z xw),0)
theorem amC:Lm=I D0:=by rw[Lm,Uc];rfl
theorem TE:AL=I D0:=by rw[AL,UF];rfl
def ow l m i:=
 sB l (ko l m 0 (iL i) (xu 128) G).1 0 (iL i,4,0,0) (iO (iL i+128) 384 4).1
def KA (h:Host)(i:Nat):Host:=
 ((ow h.2.1 h.1 i).1,h.2.1,h.2.2.1,h.2.2.2.1.set i ((ow h.2.1 h.1 i).2.1,(iL i+64,4,0),(iL i+64,4,0),((0,0,0,0,0,0,0,0,0,0,0,0,0,0,0,([]:Bytes)),0,0),G,(match h.2.2.2.1[i]? with|some x=>x.2.2.2.2.2|none=>0)),h.2.2.2.2.1.set i (ow h.2.1 h.1 i).2.2.1,h.2.2.2.2.2)
theorem RX h(i:Nat)(e:i<=8)(a:i<h.2.2.2.1.length)(d:i<h.2.2.2.2.1.length)(b:h.2.1.length<=10^9)(c:h.1.length<=10^9):vf h (i:Int)=I ((),KA h i):=by have g:iL i=1280+(i:Int)*1792:=rfl;have f:gO 128 0=I (xu 128):=X8 128;have hf:=agj h.2.1 (ko h.2.1 h.1 0 (iL i) (xu 128) G).1 0 (iL i,4,0,0) (iO (iL i+128) 384 4).1 b (by rw[pe];exact c) (bf (uG (iL i+128) 384 4) J);unfold vf;simp only[aj1 e];rw[aj (n:=iL i+128) J J,aj (n:=iL i+64) J J,UF,f];simp only[aP a,aP d,aa,Pc h.2.1 h.1 0 (iL i) (xu 128) b c J,hf,au,KA,ow,ah a]
def uI (h:Host)(i:Nat)(n:Int):Int×Host:=
 match h.2.2.2.1[i]?,h.2.2.2.2.1[i]? with
 |some rx,I a=>
  ((iU h.2.1 h.1 0 rx a h.2.2.2.2.2.2.2.2.2.1 n).2.2.2.2,(iU h.2.1 h.1 0 rx a h.2.2.2.2.2.2.2.2.2.1 n).1,h.2.1,h.2.2.1,h.2.2.2.1.set i (iU h.2.1 h.1 0 rx a h.2.2.2.2.2.2.2.2.2.1 n).2.1,h.2.2.2.2.1.set i (iU h.2.1 h.1 0 rx a h.2.2.2.2.2.2.2.2.2.1 n).2.2.1,h.2.2.2.2.2.1,h.2.2.2.2.2.2.1,h.2.2.2.2.2.2.2.1,h.2.2.2.2.2.2.2.2.1,(iU h.2.1 h.1 0 rx a h.2.2.2.2.2.2.2.2.2.1 n).2.2.2.1,h.2.2.2.2.2.2.2.2.2.2)
 |_,_=>(0,h)
theorem acw (h:Host)i n(b:i<h.2.2.2.1.length)(a:i<h.2.2.2.2.1.length)(z:cJ 500000000 fC h):ov h (i:Int) n=I (uI h i n):=by have d:h.2.1.length<=500000000:=z.2.1.1;have e:h.1.length<=500000000:=z.1.1;have c:h.2.2.2.2.1[i].2.2.2.length<=500000000:=(z.2.2.2.2.1.2 _ (az a)).2.2.2.1;unfold ov;simp only[aP b,aP a,aa,aeY h.2.1 h.1 0 _ _ _ n (J:h.2.1.length<=10^9) (J:h.1.length<=10^9) c z.2.2.2.2.2.2.2.2.2.1,au,uI,ah b,ah a]
theorem sW {n t}{l:Z t.D}{i x}(z:cJ n (.sl t) l)(a:cJ n t x):cJ n (.sl t) (l.set i x):=by refine⟨?_,λy b=>?_⟩;show(l.set i x).length<=n;rw[aC];exact z.1;rcases cG b with h|h;exact z.2 y h;rw[h];exact a
theorem aaN {n}(hn:128<=n)(h:JQ m):cJ n (.sl .str) m:=⟨bf h.2 J,λx a=>bf (Nat.le_of_eq (h.1 x a)) hn⟩
theorem agW {n}(hn:128<=n)(z:cJ n (.sl .str) m)a s:cJ n (.sl .str) (oo m a s).1:=by grind[oo,jj,aaN,HB,tf]
theorem afL {n:Nat}(hn:128<=n):∀(q:Z (Int×Int)){m:cL}(s:Bytes),cJ n (.sl .str) m->cJ n (.sl .str) (Mm q m s)
 |[],m,s,z=>z
 |p::q,m,s,z=>afL hn q _ (agW hn z _ _)
theorem Nn {n}(hn:128<=n)(z:cJ n (.sl .str) m)l d a s w:cJ n (.sl .str) (ko l m d a s w).1:=by grind[ko,afL]
theorem Ry {n}(hn:128<=n)(z:cJ n (.sl .str) m)l d r s:cJ n (.sl .str) (dL l m d r s).1:=by grind[dL,Nn]
theorem ZX {n:Nat}(hn:128<=n)(l:Z cE)(d:Int)(p:gL):∀(q:dw){m:cL}(r:rn),cJ n (.sl .str) m->cJ n (.sl .str) (nG l d p q m r).2.1
 |[],m,r,z=>z
 |b::q,m,r,z=>by rw[nG];cases (dL l m d r (iB p b)).2.2 with|false=>exact z|true=>exact ZX hn l d p q _ (Ry hn z ..)
theorem ZY {n}(hn:128<=n)(z:cJ n (.sl .str) m)l d r p:cJ n (.sl .str) (sB l m d r p).1:=by unfold sB;cases !eQ r|| !eD p with|true=>exact z|false=>exact ZX hn _ _ _ _ _ z
theorem akg l m d r p:(sB l m d r p).1.length=m.length:=by grind[sB,SH]
theorem PH l m d r p:(sB l m d r p).2.2.1.2.2.2.length<=p.2.2.2.length:=by grind[sB]
theorem afD (l:Z cE)(m:cL)(d:Int):∀(k:Nat)(s:Z Stream×dq×gL),(jq l m d k s).2.2.1.2.2.2=s.2.1.2.2.2/\(jq l m d k s).1<=k
 |0,s=>⟨rfl,bq _⟩
 |k+1,s=>by rw[jq];cases (mm l m d s.2.1.2.2.1).2.2 with|false=>grind|true=>have:=afD l m d k (xU l m d s);simp only[ak,ab];exact⟨this.1,J⟩
theorem aaR {n}(hn:128<=n){rx:dq}{a:gL}{b:Z Stream}c(g:cJ n (.sl .str) m)(j:cJ n qe rx)(i:cJ n TM a)(zs:cJ n (.sl mV) b): cJ n (.sl .str) (iU l m d rx a b c).1/\cJ n qe (iU l m d rx a b c).2.1/\cJ (n+322000) TM (iU l m d rx a b c).2.2.1/\cJ (n+322000) (.sl mV) (iU l m d rx a b c).2.2.2.1/\0<=(iU l m d rx a b c).2.2.2.2/\(iU l m d rx a b c).2.2.2.2<=1000:=by
 unfold iU;cases f: !KI rx||(!eD a|| !dF c 0 1000)with
 |true=>exact⟨g,j,i.mono,zs.mono,gH _,by show(0:Int)<=1000;omega⟩
 |false=>
  have k:dF c 0 1000=true:=by cases h:dF c 0 1000 with|true=>rfl|false=>rw[h]at f;simp at f
  have h:=aR.1 k;have z:=Rs (l:=l) (m:=m) (d:=d) c.toNat (s:=(b,rx,a)) (n:=n) ⟨zs,i.2.2.2.1⟩;have o:=afD l m d c.toNat (b,rx,a);refine⟨ZY hn g ..,⟨?_,?_,?_,?_⟩,⟨B,B,B,?_,λ_ _=>trivial⟩,z.st.mono,by show(0:Int)<=((jq l m d c.toNat (b,rx,a)).1:Int);omega,by show((jq l m d c.toNat (b,rx,a)).1:Int)<=1000;omega⟩;exact⟨B,B,B,B⟩;exact⟨B,B,B⟩;exact⟨B,B,B⟩;have e:=congrArg (λq=>cJ n qe (rx.1,rx.2.1,rx.2.2.1,q)) o.1;exact(e.mpr j).2.2.2;have:=PH l m d (jq l m d c.toNat (b,rx,a)).2.2.1.1 (jq l m d c.toNat (b,rx,a)).2.2.2;have p:=z.pl;show(sB l m d (jq l m d c.toNat (b,rx,a)).2.2.1.1 (jq l m d c.toNat (b,rx,a)).2.2.2).2.2.1.2.2.2.length<=_;omega
theorem aiX {n}(hn:128<=n)i c(z:cJ n fC h):cJ (n+322000) fC (uI h i c).2:=by unfold uI;rcases e:h.2.2.2.1[i]? with _|rx;exact z.mono;rcases f:h.2.2.2.2.1[i]? with _|k;exact z.mono;have j:=z.2.2.2.1.2 _ (aF e);have g:=z.2.2.2.2.1.2 _ (aF f);have b:=aaR hn (l:=h.2.1) (d:=0) c z.1 j g z.2.2.2.2.2.2.2.2.2.1;have a:cJ (n+322000) fC h:=z.mono;exact⟨b.1.mono,a.2.1,a.2.2.1,sW a.2.2.2.1 (b.2.1.mono),sW a.2.2.2.2.1 b.2.2.1,a.2.2.2.2.2.1,a.2.2.2.2.2.2.1,a.2.2.2.2.2.2.2.1,a.2.2.2.2.2.2.2.2.1,b.2.2.2.1,a.2.2.2.2.2.2.2.2.2.2⟩
def SL:bc:=(0,0,(0,0,0),G,0,0)
def mr (b:J6):=dF b.1 0 10000&&(dF b.2.1 0 100000&&dF b.2.2 0 b.2.1)
def MQ n(f:bc):=dF f.1 0 7&&(dF f.2.1 1 (V (n-1))&&(mr f.2.2.1&&(dF f.2.2.2.2.1 0 1000000000000&&dF f.2.2.2.2.2 0 1000000000000)))
def alY (f g:bc):=(g.1==f.1)||(g.2.1==f.2.1)
def fnB (l:Z bc)n i:=MQ n (l.getD i SL)&&(range i).all (λj=> !(alY (l.getD i SL) (l.getD j SL)))
def fY l a:=kH a&&(range l.length).all (fnB l (a.length:Int))
theorem Iy (b:J6):rh b=I (mr b):=by grind[rh,cz,aa,mr]
theorem PX (b:J6):Am b=I (mr b):=Iy b
theorem JV l a(h:l.length<=10^9)(e:a.length<=10^9)(f:∀p∈a,p.2.1.length<=10^9):oG l a=I (fY l a):=by
 unfold oG fY;rw[iK (hit:=some G) (fin:=some O) (fnB l (a.length:Int)) l.length J (λi d k=>?hs) (λd=>?hf)]
 case hs=>
  simp only[rX]
  rw[iG,aP k,aj (n:=(i:Int)+1) J J]
  simp only[ae,aa,cz,Iy,cD,cT]
  rw[iK (hit:=some G) (fin:=d ((i:Int)+1)) (λj=> !(alY l[i] (l.getD j SL))) i J (λj c m=>?hs2) (λc=>?g)]
  case hs2=>
   have b:j<l.length:=J
   simp only[qJ]
   rw[iG,aP b,aj (n:=(j:Int)+1) J J]
   simp only[ae,aa,cD,cT,cU b,nm];rfl
  all_goals grind[qJ,fnB,MQ]
 case hf=>
  grind[rX]
 simp only[Ow a e f,aa];grind
theorem JL l a(h:l.length<=10^9)(g:a.length<=10^9)(k:∀p∈a,p.2.1.length<=10^9):oC l a=I (fY l a):=by
 unfold oC fY;rw[iK (hit:=some G) (fin:=some O) (fnB l (a.length:Int)) l.length J (λi f o=>?hs) (λf=>?hf)]
 case hs=>
  simp only[rJ]
  rw[iG,aP o,aj (n:=(i:Int)+1) J J,Yo l i J]
  simp only[ae,aa,cP,PX,cD,cT]
  have d:(l.take i).length=i:=by simp;omega
  rw[d,iK (hit:=some G) (fin:=f ((i:Int)+1)) (λj=> !(alY l[i] (l.getD j SL))) i J (λj e q=>?hs2) (λe=>?m)]
  case hs2=>
   have b:j<l.length:=J
   have c:j<(l.take i).length:=J
   simp only[rK]
   rw[iG,aP c,aj (n:=(j:Int)+1) J J,List.getElem_take]
   simp only[ae,aa,cD,cT,cU b,nm];rfl
  all_goals grind[rK,fnB,MQ]
 case hf=>
  grind[rJ]
 simp only[Oc a g k,aa];grind
def Ac (l:Z bc)i:=((l.getD i SL).1==(i:Int))&&((l.getD i SL).2.1==(i:Int)+1)
theorem W6 l(h:l.length<=10^9):xL l=I ((range l.length).all (Ac l)):=by unfold xL;rw[iK (hit:=some G) (fin:=some O) (Ac l) l.length J (λi a c=>?hs) (λa=>?b)];all_goals grind[C9,aP,aj,aa,Ac]
theorem RS a b(h:a.2.2.length<=10^9):vh a b=I (Wm a b):=Lh a b h
theorem MS:∀(K:Z dY)(i:Nat)(s:dw×Z Port),ady i s->K.all oZ=O->ady (i+K.length) (K.foldl Mk s)
 |[],i,s,h,_=>h
 |m::K,i,s,h,a=>by rw[cC,af]at a;have c:=KT m.1.2.2 s.1;have b:=Kv a.1;have:=MS K (i+1) (Mk s m) (h.port a.1 _) a.2;grind
theorem Us {K}(h:(cK K).2=O):K.length<=3:=by grind[cK,aR]
theorem HJ K:(cK K).1.length<=10^9/\∀p∈(cK K).1,p.2.1.length<=10^9:=by unfold cK;cases a:dF (K.length:Int) 1 3&&(K.all oZ&&kH (oc K))with|false=>grind|true=>simp only[af,aR]at a;have:=MS K 0 ([0],[]) ⟨aD,rfl,aD⟩ a.2.1;rw[cR]at this;exact Ni this J
theorem aaT K:(cK K).1.length<=4/\∀p∈(cK K).1,p.2.1.length<=28:=by unfold cK;cases b:dF (K.length:Int) 1 3&&(K.all oZ&&kH (oc K))with|false=>grind|true=>simp only[af,aR]at b;have h:=MS K 0 ([0],[]) ⟨aD,rfl,aD⟩ b.2.1;rw[cR]at h;have c:=h.1;have d:=h.2.1;simp only[ae,oc];refine⟨gA,λp a=>?_⟩;rcases bW.1 a with rfl|a;simp only;omega;have:=h.2.2 p a;omega
def akn v b:=((cx v++cx (b.length:Int))++b)++cx (ZN ((cx v++cx (b.length:Int))++b))
def gr v b:=bif dF v 0 1000000&&decide (b.length<=84) then(akn v b,O) else([],G)
theorem X9 v b(h:b.length<=10^9):tJ v b=I (gr v b):=by have c:=eG v;have d:=eG (b.length:Int);unfold tJ gr;rw[aj J J];simp only[cz,aa];cases dF v 0 1000000 with|false=>rfl|true=>by_cases a:b.length<=84;have e:=eG (ZN ((cx v++cx (b.length:Int))++b));rw[aw (J:¬((b.length:Int)+12>96)),ax a];simp only[ak,ab,aa,bR,ae,mc];rw[aU J,aU (by simp only[aq];omega),ak1 _ (by simp only[aq];omega)];simp only[aa,mc];rw[aU (by simp only[aq];omega)];rfl;rw[ax (J:((b.length:Int)+12>96)),aw a];rfl
theorem apL v b(h:b.length<=10^9):CQ v b=I (gr v b):=by have c:=eG v;have d:=eG (b.length:Int);unfold CQ gr;rw[aj J J];simp only[cP,aa];cases dF v 0 1000000 with|false=>rfl|true=>by_cases a:b.length<=84;have e:=eG (ZN ((cx v++cx (b.length:Int))++b));rw[aw (J:¬(12+(b.length:Int)>96)),ax a];simp only[ak,ab,aa,bR,ae,BN];rw[aU J,aU (by simp only[aq];omega),aks _ (by simp only[aq];omega)];simp only[aa,BN];rw[aU (by simp only[aq];omega)];rfl;rw[ax (J:(12+(b.length:Int)>96)),aw a];rfl
def aol s n:=bif (gr (eK s 0) ((s.take (8+n)).drop 8)).2&&((gr (eK s 0) ((s.take (8+n)).drop 8)).1==s.take (12+n)) then eK s 0 else-1
def jA s:=if 0<=eK s 4/\eK s 4<=(s.length:Int)-12 then aol s (eK s 4).toNat else-1
theorem aem s a: -1<=eK s a/\eK s a<=4294967295:=by grind[eK,gT]
theorem aom {n}(h:¬n<=84)(hs:n+12<=s.length):aol s n= -1:=by grind[gr,aol]
theorem VG s(h:s.length<=10^9):lv s=I (jA s):=by
 unfold lv jA;have i:=aem s 4;simp only[EH s _ h,cz,aa];rw[aj (n:=eK s 4+12) J J,aj (n:=8+eK s 4) J J];generalize eK s 4=n at i;by_cases e:0<=n/\n<=(s.length:Int)-12;rw[aI e];obtain⟨m,rfl⟩:=ar e.1;by_cases b:m<=84;have a:dF (m:Int) 0 84=true:=aR.2 J;have f:sub s 8 (8+(m:Int))=I ((s.take (8+m)).drop 8):=by unfold sub;rw[zip];rfl
 have g:sub s 0 ((m:Int)+12)=I (s.take (12+m)):=by unfold sub;rw[zip,(J:((m:Int)+12).toNat=12+m)];rfl
 rw[a,aw (J:¬((m:Int)+12>(s.length:Int))),f,g];simp only[ak,ab,aa,au];rw[X9 _ _ (by simp only[bA,bp];omega)];unfold aol;simp only[aa];cases (gr (eK s 0) ((s.take (8+m)).drop 8)).2<;>cases ((gr (eK s 0) ((s.take (8+m)).drop 8)).1==s.take (12+m))<;>rfl;have a:dF (m:Int) 0 84=false:=by rw[Bool.eq_false_iff,ne_eq,aR];omega
 rw[a,au,aom b J];rfl;rw[aK e];by_cases c:dF n 0 84=O;have:=aR.1 c;rw[c,ax (J:n+12>(s.length:Int))];rfl;have d:dF n 0 84=false:=by simpa using c
 rw[d];rfl
theorem Q4 s(h:s.length<=10^9:=by omega):lp s=I (jA s):=by
 unfold lp jA;have e:=aem s 4;simp only[En s _ h,aa];rw[aj (n:=12+eK s 4) J J,aj (n:=8+eK s 4) J J,aj (n:=(s.length:Int)-12) J J];generalize eK s 4=n at e;by_cases a:0<=n/\n<=(s.length:Int)-12;rw[aI a];obtain⟨m,rfl⟩:=ar a.1;have c:sub s 8 (8+(m:Int))=I ((s.take (8+m)).drop 8):=by unfold sub;rw[zip];rfl
 have d:sub s 0 (12+(m:Int))=I (s.take (12+m)):=by unfold sub;rw[zip,(J:(12+(m:Int)).toNat=12+m)];rfl
 rw[aw (J:¬((m:Int)<0)),aw (J:¬((m:Int)>(s.length:Int)-12)),c,d];simp only[ab,aa,au];rw[apL _ _ (by simp only[bA,bp];omega)];unfold aol;simp only[aa];cases (gr (eK s 0) ((s.take (8+m)).drop 8)).2<;>cases ((gr (eK s 0) ((s.take (8+m)).drop 8)).1==s.take (12+m))<;>rfl;rw[aK a];by_cases b:n<0;rw[ax b];rfl;rw[aw b,ax (J:n>(s.length:Int)-12)];rfl
def jC (f:cL):=((f.length:Int)==2)&&((((f.getD 0 []).length:Int)==96)&&(((f.getD 1 []).length:Int)==96))
theorem B8 {f}(h:jC f=O):f=[f.getD 0 [],f.getD 1 []]/\(f.getD 0 []).length=96/\(f.getD 1 []).length=96:=by simp only[jC,af,bw]at h;match f,h with|[a,b],h=>grind
theorem Ot f:zj f=I (jC f):=by unfold zj jC;match f with|[]=>rfl|[a]=>rfl|[a,b]=>simp_all[idx]|a::b::c::r=>rfl
theorem SR f:CL f=I (jC f):=Ot f
def jG f:=bif jC f then(if jA (f.getD 0 [])<0/\jA (f.getD 1 [])<0 then-1 else if jA (f.getD 1 [])>jA (f.getD 0 []) then 1 else 0) else-1
theorem RL f:rf f=I (jG f):=by unfold rf jG;rw[Ot,aa];cases hf:jC f with|false=>rfl|true=>obtain⟨e,c,d⟩:=B8 hf;generalize f.getD 0 []=a at*;generalize f.getD 1 []=b at*;subst e;have i0:idx [a,b] 0=I a:=rfl;have i1:idx [a,b] 1=I b:=rfl;grind[aa,VG]
theorem WZ f:wi f=I (jG f):=by unfold wi jG;rw[SR,aa];cases hf:jC f with|false=>rfl|true=>obtain⟨e,d,g⟩:=B8 hf;generalize f.getD 0 []=a at*;generalize f.getD 1 []=b at*;subst e;have i0:idx [a,b] 0=I a:=rfl;have i1:idx [a,b] 1=I b:=rfl;simp only[ak,ab,ae,i0,i1,aa,Q4 a,Q4 b];by_cases r:jA b>jA a;have c:¬jA a>=jA b:=J;by_cases p:jA a<0<;>by_cases q:jA b<0<;>simp[p,q,r,c];have c:jA a>=jA b:=J;by_cases p:jA a<0<;>by_cases q:jA b<0<;>simp[p,q,r,c]
def wA (c:rn):=dF c.1 0 1125899906842624&&(dF c.2.1 0 1048575&&(dF c.2.2.1 0 67108864&&dF c.2.2.2 0 1099511627776))
theorem Oq (c:rn):uO c=I (wA c):=by grind[uO,cz,aa,wA]
theorem aai (c:rn):CK c=I (wA c):=Oq c
def Qx (c:dv)(i:Nat):=(c.1[i]?.all eJ)&&Wm (c.1[i]?.map (·.2.2.2.2.2.2.2.1)) (c.2.2.1[i]?.map (·.1))
def O4 (c:dv):=((c.1.length:Int)==(c.2.2.1.length:Int))&&((c.2.1.length:Int)==(c.2.2.1.length:Int))
def gY c:=(cK c.2.2.1).2&&(O4 c&&(fY c.2.1 (cK c.2.2.1).1&&((!decide (jG c.2.2.2.1<0)&&wA c.2.2.2.2.1)&&((range c.1.length).all (Qx c)&&(range c.1.length).all (Ac c.2.1)))))
structure Po (c:dv):Prop where
 h0:c.1.length<=10^9
 f0:c.2.1.length<=10^9
 m:∀m∈c.2.2.1,m.1.2.2.length<=10^9
 h1:∀h∈c.1,KX h
theorem Ev (h:O4 c=O):c.1.length=c.2.2.1.length/\c.2.1.length=c.2.2.1.length:=by grind[O4]
theorem K1 i a(b:i<c.2.2.1.length):Qx c i=(eJ c.1[i]&&Wm c.1[i].2.2.2.2.2.2.2.1 c.2.2.1[i].1):=by grind[Qx,K5]
theorem F8 c(z:Po c):mR c=I (gY c):=by
 have d:=HJ c.2.2.1;unfold mR gY;simp only[qG _ z.m,JV _ _ z.f0 d.1 d.2,RL,Oq,aa,cD,cT,bne];rw[show((!((c.1.length:Int)==(c.2.2.1.length:Int)))||((!((c.2.1.length:Int)==(c.2.2.1.length:Int)))||((!fY c.2.1 (cK c.2.2.1).1)||(ay (jG c.2.2.2.1<0)|| !wA c.2.2.2.2.1))))= !(O4 c&&(fY c.2.1 (cK c.2.2.1).1&&(!decide (jG c.2.2.2.1<0)&&wA c.2.2.2.2.1))) by grind[O4]];cases (cK c.2.2.1).2;rfl;cases e:O4 c;rfl;cases fY c.2.1 (cK c.2.2.1).1;rfl;cases (!decide (jG c.2.2.2.1<0)&&wA c.2.2.2.2.1);rfl;have h:=Ev e;have g:=z.h0;simp only[ak,cq,gB,ab,bg];rw[iK (hit:=some G) (fin:=some O) (λi=>Qx c i&&Ac c.2.1 i) c.2.2.1.length J (λi f a=>?hs) (λf=>?hf)]
 case hs=>
  have q1:i<c.1.length:=J
  have q2:i<c.2.1.length:=J
  have b:=az q1
  rw[K1 i q1 a]
  simp only[Dw]
  rw[iG,aP q1,aP a,aP q2,aj (n:=(i:Int)+1) J J]
  simp only[ae,aa,vI _ (z.h1 _ b),RS _ _ (z.h1 _ b).f1,cD,cT,bne,Ac,cU q2]
  grind
 case hf=>
  grind[Dw]
 grind
theorem CD c(z:Po c):lL c=I (gY c):=by
 have d:=HJ c.2.2.1;unfold lL gY;simp only[FQ _ z.m,JL _ _ z.f0 d.1 d.2,W6 _ z.f0,WZ,aai,aa,cD,cT,cF,bne];rw[show((!((c.1.length:Int)==(c.2.2.1.length:Int)))|| !((c.2.1.length:Int)==(c.2.2.1.length:Int)))= !(O4 c) by grind[O4]];cases (cK c.2.2.1).2;rfl;cases e:O4 c;rfl;have h:=Ev e;have g:=z.h0;simp only[ak,cq,ab,bg];have hd:decide (jG c.2.2.2.1>=0)= !decide (jG c.2.2.2.1<0):=by grind
 rw[hd,iK (hit:=some G) (fin:=some (fY c.2.1 (cK c.2.2.1).1&&((range c.2.1.length).all (Ac c.2.1)&&(!decide (jG c.2.2.2.1<0)&&wA c.2.2.2.2.1)))) (Qx c) c.1.length J (λi f a=>?hs) (λf=>?hf)]
 case hs=>
  have q1:i<c.2.2.1.length:=J
  have b:=az a
  rw[K1 i a q1]
  simp only[CJ]
  rw[iG,aP a,aP q1,aj (n:=(i:Int)+1) J J]
  simp only[ae,aa,CF _ (z.h1 _ b),Lh _ _ (z.h1 _ b).f1,cD,cT]
  grind
 all_goals grind[CJ]
theorem map_take {β:Type}(f:α->β)(l:Z α)i a:(l.take i).map f++[f l[i]]=(l.take (i+1)).map f:=by grind[aM]
theorem aqz (x:α)i:List.replicate i x++[x]=List.replicate (i+1) x:=by rw[<-List.replicate_append_replicate];rfl
theorem Gj m(h:m.1.2.2.length<=10^9):oE m=I m:=by grind[oE,sC,aa]
theorem nv m(h:m.1.2.2.length<=10^9):mJ m=I m:=by grind[mJ,jJ,aa]
theorem OZ l(h:l.length<=10^9)(b:∀m∈l,m.1.2.2.length<=10^9):xJ l=I l:=by unfold xJ;refine(bJ (λi=>(l.take i,(i:Int))) l.length J (λi c a=>?_) (λc=>?_));simp only[wW];rw[iG,aP a,aj J J];simp only[ae,aa,Gj _ (b _ (az a))];rw[aU (by simp;omega),<-aM a];rfl;simp only[wW];rw[ga,bB];rfl
theorem CE l(h:l.length<=10^9):lZ l=I l:=by grind[lZ,fi]
def atC:dD:=(([]:Z JE),([]:Z cL),([]:Z bc),([]:Z dY),([]:cL))
def vp (c:dv):dD:=bif gY c then(c.1.map KM,List.replicate c.1.length ([]:cL),c.2.1,c.2.2.1,c.2.2.2.2.2.2) else atC
theorem Px (h:gY c=O):c.1.length=c.2.2.1.length/\c.2.1.length=c.2.2.1.length:=by grind[gY,Ev]
theorem agl (c:dv)(d:cJ 1000000000 xz c)(z:Po c):Hj c=I (vp c):=by have j:=z.h0;unfold Hj vp;rw[F8 c z,aa];cases g:gY c with|false=>rfl|true=>have f:=Px g;simp only[ak,ab,ae,fi d.2.1.1,fi d.2.2.2.2.2.2.1,bF];refine(bJ (λi=>((i:Int),(c.1.take i).map KM,List.replicate i ([]:cL),c.2.1,c.2.2.1.take i,c.2.2.2.2.2.2)) c.1.length J (λi h b=>?_) (λh=>?_));have e:=az b;have a:i<c.2.2.1.length:=J;simp only[Bh];rw[iG,aP b,aP a,aj J J];simp only[ae,aa,ajx _ (d.1.2 _ e) (z.h1 _ e),nv _ (z.m _ (az a))];rw[aU (by simp;omega),aU (by simp;omega),aU (by simp;omega),map_take _ _ _ b,aqz,<-aM a];rfl;simp only[Bh];rw[ga,bB,f.1,bB];rfl
theorem acm (c:dv){n}(z:cJ n xz c):cJ n iZ (vp c):=by unfold vp;cases gY c with|false=>exact⟨⟨cg _,λ_ h=>nomatch h⟩,⟨cg _,λ_ h=>nomatch h⟩,⟨cg _,λ_ h=>nomatch h⟩,⟨cg _,λ_ h=>nomatch h⟩,cg _,λ_ h=>nomatch h⟩|true=>refine⟨⟨?_,λx a=>?_⟩,⟨?_,λx a=>?_⟩,z.2.1,z.2.2.1,z.2.2.2.2.2.2⟩;show(c.1.map KM).length<=n;rw[bt];exact z.1.1;obtain⟨h,b,rfl⟩:=cX.1 a;exact anK h (z.1.2 h b);show(List.replicate c.1.length ([]:cL)).length<=n;rw[List.length_replicate];exact z.1.1;have:=List.eq_of_mem_replicate a;subst this;exact⟨cg _,λ_ h=>nomatch h⟩
def Pq (s:Bytes):=∀x∈s,x=0
theorem adA (h:Pq s):s=List.replicate s.length 0:=List.eq_replicate_iff.2 ⟨rfl,h⟩
theorem YG n:Pq (xu n):=by intro x a;grind[xu,aZ,List.map_replicate]
theorem aru (h:Pq s)(k:Pq t)(e:s.length=t.length):s=t:=by rw[adA h,adA k,e]
theorem auT (a:Pq x)(c:Pq t)(h:o+t.length<=x.length):Dj x o t=x:=by refine aru (λy b=>?_) a (Ti h);unfold Dj at b;rcases aB.1 b with g|g;exact a y (List.mem_of_mem_take g);rcases aB.1 g with g|g;exact c y g;exact a y (List.mem_of_mem_drop g)
theorem ark:∀(n:Nat){m:cL}{a:Nat}{s:Bytes},JQ m->(∀x∈m,Pq x)->Pq s->a+s.length<=128*m.length->Ae n m a s=m
 |0,m,a,s,_,_,_,_=>rfl
 |n+1,m,a,s,f,e,hs,h=>by rw[Ae];by_cases c:s.length=0;rw[aI c];rw[aK c];obtain⟨b,g,_⟩:=L4 f c h;have i:Dj (m[a/128]'b) (a%128) (s.take (128-a%128))=m[a/128]'b:=auT (e _ (az b)) (λy d=>hs y (List.mem_of_mem_take d)) (by rw[g,bp];omega);rw[cU b,i,List.set_getElem_self];exact ark n f e (λy d=>hs y (List.mem_of_mem_drop d)) (by rw[bA];omega)
theorem asO a(c:∀x∈m,Pq x)(d:Pq s):(oo m a s).1=m:=by unfold oo;cases b:jj m a (s.length:Int);rfl;simp only[jj,af,bO]at b;exact ark s.length (tf.1 b.1) c d J
theorem as5:∀(q:Z (Int×Int)){m:cL}{s:Bytes},(∀x∈m,Pq x)->Pq s->Mm q m s=m
 |[],m,s,_,_=>rfl
 |p::q,m,s,b,hs=>by rw[Mm,asO _ b (λy a=>hs y (List.mem_of_mem_take a))];exact as5 q b (λy a=>hs y (List.mem_of_mem_drop a))
theorem auU (b:∀x∈m,Pq x)(c:Pq s)l d a w:(ko l m d a s w).1=m:=by unfold ko;cases (pO l m d a (s.length:Int) w).2 with|false=>rfl|true=>exact as5 _ b c
def IX n:=List.replicate n (xu 128)
theorem atL {n}:∀x∈IX n,Pq x:=λx a=>by rw[(List.mem_replicate.1 a).2];exact YG 128
theorem amT n:IX (n+1)=IX n++[xu 128]:=List.replicate_succ'
theorem Ya (n:Nat)(h:n<=64:=by omega):tL (n:Int)=I (IX n):=by have a:gO 128 0=I (xu 128):=X8 128;unfold tL;refine bJ (λi=>((i:Int),IX i)) n J (λi b c=>?_) (λb=>?_);simp only[xk];rw[ax (J:(i:Int)<n),ae,iG,aa,ae,a,aa,aU (by simp[IX];omega),aj J J,amT];rfl;simp only[xk];rw[aw (J:¬(n:Int)<n),ab,aa,ab]
def wB (a b:Int):Vector×Bool:=bif fO (a,b,0,0,G,G) then((a,b,0,0,G,G),O) else((0,0,0,0,G,G),G)
theorem Yb a b:DG a b=I (wB a b):=by grind[DG,wB,yb,aa]
def bV (i:Nat):Z cE:=(range i).map λ(p:Nat)=>(0,(p:Int),37-(p:Int), !dF (p:Int) 2 9)
theorem Xo i:bV (i+1)=bV i++[(0,(i:Int),37-(i:Int), !dF (i:Int) 2 9)]:=by simp[bV,ja]
theorem Kw i:(bV i).length=i:=by simp[bV]
def auz:Host:=(([]:cL),([]:Z cE),((0,0,0,0),(0,0,0,([]:dw)),([]:Z xw),0),([]:Z dq),([]:Z gL),([]:Z Vector),([]:Z Bool),(0,G,([]:dw)),(([]:Z IV),([]:Z Slot),([]:Bytes),([]:dw)),([]:Z Stream),G,([]:cL),([]:dw),([]:dw),0,0,0,0,0)
def WW (f:Filter)(s:jx)(c:Bool)(i:Nat):Host:=(IX 38,bV i,D0,([]:Z dq),([]:Z gL),([]:Z Vector),([]:Z Bool),f,s,([]:Z Stream),c,([]:cL),([]:dw),([]:dw),0,0,0,0,0)
def ZW:=sB (bV 38) (IX 38) 0 (Js 0).1 (iO (iL 0+128) 384 4).1
def as1 (f:Filter)(s:jx)(c:Bool)(v:Vector):Host:=(ZW.1,bV 38,D0,[(ZW.2.1,(Js 0).2)],[ZW.2.2.1],[v],[G],f,s,([]:Z Stream),c,([]:cL),([]:dw),([]:dw),0,0,0,0,0)
def pa f s c a b:=
 bif gu f&&(fK s 1&&(wB a b).2) then(as1 f s c (wB a b).1,O) else(auz,G)
theorem UE f s c a b(hf:f.2.2.length<=10^9)(j:s.1.length<=10^9)(k:s.2.1.length<=10^9)(p:s.2.2.2.length<=10^9):zA 1 f s c a b=I (pa f s c a b):=by
 have t:=dB;unfold zA pa;rw[Yb,aa,cz,aa,show dF (1:Int) 1 2=O from aR.2 J,re f hf,Ds s 1 j k p];simp only[ak,ab,aa];cases gu f;rfl;cases fK s 1;rfl;generalize wB a b=v;cases B:v.2;rfl;have w:tL 38=I (IX 38):=Ya 38;simp only[ak,ab,aa,gB,ae,w,TE,jJ f hf,AA s j k p];refine bJ (λi=>((i:Int),WW f s c i)) 38 J (λi h z=>?_) (λh=>?_);have A:=Kw i;simp only[vM];rw[iG,ae,cz,aa,aU (by show(bV i).length+1<=_;omega),aj (n:=(i:Int)+1) J J,aj (n:=37-(i:Int)) J J];show h ((i:Int)+1,IX 38,bV i++_,_)=h (((i+1:Nat):Int),IX 38,bV (i+1),_);rw[Xo];rfl;simp only[vM];rw[ga,ab];have r:=Kw 38;have e:(IX 38).length<=10^9:=by rw[IX,List.length_replicate];omega
 have x:ow (bV 38) (IX 38) 0=ZW:=by unfold ow ZW;rw[auU atL (YG 128)];rfl
 have q:(Js 0).2=((iL 0+64,4,0),(iL 0+64,4,0),((0,0,0,0,0,0,0,0,0,0,0,0,0,0,0,([]:Bytes)),0,0),G,0):=rfl;have d:=RX (IX 38,bV 38,D0,[((0,0,0,0),(0,0,0),(0,0,0),((0,0,0,0,0,0,0,0,0,0,0,0,0,0,0,([]:Bytes)),0,0),G,0)],[(0,0,0,([]:dw))],[v.1],[G],f,s,([]:Z Stream),c,([]:cL),([]:dw),([]:dw),0,0,0,0,0) 0 J (Nat.lt_succ_self 0) (Nat.lt_succ_self 0) (by show(bV 38).length<=_;omega) e;unfold KA at d;simp only[x,List.set_cons_zero,dy,show((0:Nat):Int)=0 from rfl]at d;obtain⟨g,u⟩:∃g,fuel=g+2:=⟨fuel-2,J⟩
 unfold WW as1;rw[q];generalize iL 0=y at d⊢;generalize ZW=o at d⊢;generalize IX 38=m at d⊢;generalize bV 38=l at d⊢;rw[u,aQ,tK];rw[iG,ae];simp only;rw[aU aD,aU aD,aU aD,aU aD];simp only[bF];rw[d,aa,aQ,tK,aj J J,ga,ab]
def asY:dv:=(([]:Z Host),([]:Z bc),([]:Z dY),([]:cL),(0,0,0,0),([]:dw),([]:cL))
def Zg (a:jx)(c:Bool)(b:J6)(x:dY)(s:Z Host×Z bc):Except (aS (dv×Bool)) (Z Host×Z bc):=
 if(pa x.1 a c 1 2).2=O then .ok (s.1++[(pa x.1 a c 1 2).1],s.2++[((s.2.length:Int),(s.2.length:Int)+1,b,O,0,0)]) else .error (I (asY,G))
def Dh K b c a f t:=
 bif (cK K).2&&(mr a&&(!decide (jG f<0)&&wA (0,0,t,0))) then
  LA (Zg b c a) (λs=>I ((s.1,s.2,K,f,(0,0,t,0),([]:dw),([]:cL)),O)) K ([],[])
 else I (asY,G)
theorem agp K a c(g:J6)f t(v:K.length<=10^9)(h:∀m∈K,m.1.2.2.length<=10^9)(u:f.length<=10^9)(j:a.1.length<=10^9)(k:a.2.1.length<=10^9)(l:a.2.2.2.length<=10^9):zx K a c g f t=Dh K a c g f t:=by
 have o:=dB;unfold zx Dh;rw[qG K h,aa,fi J];simp only[Iy,RL,Oq,aa];cases p:(cK K).2;rfl;cases mr g;rfl;cases decide (jG f<0);case true=>rfl
 cases wA (0,0,t,0);rfl;have n:=Us p;simp only[ak,ab,aa,gB,bS,ae,bF];refine vG K (λs i=>(((i:Int),s.1,s.2,K.take i,f,(0,0,t,0),([]:dw),([]:cL)):Int×dv)) (λi s=>s.1.length=i/\s.2.length=i) (Zg a c g) _ J (λi e s q d=>?_) (λi e s w d b=>?_) (λs q d=>?_) ([],[]) ⟨rfl,rfl⟩;simp only[Bj];rw[iG,ae,aP e,aa,UE _ a c 1 2 (h _ (az e)) j k l,aa];unfold Zg;cases r:(pa K[i].1 a c 1 2).2 with|false=>rfl|true=>rw[aI rfl];simp only[ak,ab];rw[aU (by rw[aO];omega),aU (by rw[aO];omega),aa,nv _ (h _ (az e)),aa,aU (by rw[aO,bp];omega),aj J J,d.2,aM e];rfl
 unfold Zg at b;split at b;injection b with b;rw[<-b];simp[d.1,d.2];cases b;simp only[Bj];rw[ga,ab,bB]
def mB (m:cL)i:=(m.getD (37-i/128) []).getD (i%128) 0
theorem asa:gU (bV 38)=true:=by decide+kernel
structure fR (m:List Bytes):Prop where
 pg:∀x∈m,x.length=128
 ln:m.length=38
theorem fR.ok (h:fR m):dC m=true:=tf.2 ⟨h.pg,by have:=h.ln;omega⟩
theorem fR.of (h:dC m=O)(a:m.length=38):fR m:=⟨(tf.1 h).1,a⟩
theorem anl:∀p:Fin 38,∀w:Bool,zY (bV 38) 0 ((p.val:Nat):Int) w=if w=O/\2<=p.val/\p.val<=9 then-1 else 37-(p.val:Int):=by decide+kernel
theorem asi (a:p<38){w}(b:w=O->p<2\/9<p):zY (bV 38) 0 (p:Int) w=((37-p:Nat):Int):=by have:=anl ⟨p,a⟩ w;grind
def xZ (m:cL)(a n:Nat):Bytes:=(range n).map λj=>mB m (a+j)
theorem afV m a n:(xZ m a n).length=n:=by simp[xZ]
theorem aqE m a n j(h:j<n):(xZ m a n).getD j 0=mB m (a+j):=by grind[xZ]
theorem aqD m a c r:xZ m a (c+r)=xZ m a c++xZ m (a+c) r:=by simp_all[xZ,List.range_add,ig]
theorem aiV (b:fR m){c:Nat}(i:a+c<=4864)(f:a%128+c<=128)(e:0<c):nb m (((37-a/128:Nat):Int)*128+((a%128:Nat):Int),(c:Int))=xZ m a c:=by have k:=b.ln;have d:37-a/128<m.length:=J;unfold nb;rw[L1 b.ok J e,iG,ae];show F5 m ((((37-a/128:Nat):Int)*128+((a%128:Nat):Int)).toNat) ((c:Int)).toNat=_;rw[au,<-Qc b.ok d f J];have l:=b.pg _ (az d);refine List.ext_getElem (by grind[afV]) λj g h=>?_;grind[xZ,mB]
theorem aql (h:o+t.length<=x.length)j:(Dj x o t).getD j 0=if o<=j/\j<o+t.length then t.getD (j-o) 0 else x.getD j 0:=by
 unfold Dj;rw[bH,bH,bH];have b:(x.take o).length=o:=by rw[bp];omega
 rcases ca j o with g|g;rw[bE J,ft g,nQ];rw[bN J,b];rcases ca (j-o) t.length with a|a;rw[bE a,zip];rw[bN a,cA,nQ];congr 2;omega
theorem afB (b:fR m)(w:a+t.length<=4864)(y:a%128+t.length<=128)(p:0<t.length):fR (oo m (((37-a/128:Nat):Int)*128+((a%128:Nat):Int)) t).1/\∀i,i<4864->mB (oo m (((37-a/128:Nat):Int)*128+((a%128:Nat):Int)) t).1 i=if a<=i/\i<a+t.length then t.getD (i-a) 0 else mB m i:=by
 have r:=b.ln;have c:37-a/128<m.length:=J;have v:=b.pg _ (az c);have e:(oo m (((37-a/128:Nat):Int)*128+((a%128:Nat):Int)) t).1=m.set (37-a/128) (Dj m[37-a/128] (a%128) t):=by
  unfold oo;rw[L1 b.ok J p,iG,ae];have j:(((37-a/128:Nat):Int)*128+((a%128:Nat):Int)).toNat=(37-a/128)*128+a%128:=J;show Ae t.length m (((37-a/128:Nat):Int)*128+((a%128:Nat):Int)).toNat t=_;rw[j];obtain⟨n,s⟩:∃n,t.length=n+1:=⟨t.length-1,J⟩
  rw[s,Ae,nQ];have k:((37-a/128)*128+a%128)/128=37-a/128:=J;have l:((37-a/128)*128+a%128)%128=a%128:=J;rw[k,l,cU c,cd J,dz J];cases n with|zero=>rfl|succ n=>rw[Ae];rfl
 rw[e];have d:(Dj m[37-a/128] (a%128) t).length=128:=by rw[Ti J,v]
 refine⟨⟨λx f=>?_,by rw[aC];exact r⟩,λi z=>?_⟩;rcases cG f with g|g;exact b.pg x g;rw[g];exact d;unfold mB;by_cases u:i/128=a/128;have o:(m.set (37-a/128) (Dj m[37-a/128] (a%128) t)).getD (37-a/128) []=Dj m[37-a/128] (a%128) t:=by rw[bH,bn c];rfl
 rw[u,o,aql J];have q:m.getD (37-a/128) []=m[37-a/128]:=cU c _;rw[q];by_cases h:a<=i/\i<a+t.length;rw[aI h,zip];congr 1;omega;rw[aK h,nQ];rw[nQ];congr 1;rw[bH,bH,aJ J]
theorem XB (x:m.length=38){w:Bool}:∀(n a r:Nat),r<=n->a+r<=4864->(w=O->a+r<=256\/1280<=a)->∃q,nZ (bV 38) m 0 w n a r=I q/\
 (∀b,fR b->q.flatMap (nb b)=xZ b a r)/\
 ∀b s,fR b->s.length=r->fR (Mm q b s)/\∀i,i<4864->mB (Mm q b s) i=if a<=i/\i<a+r then s.getD (i-a) 0 else mB b i
 |0,a,r,z,_,_=>by have:r=0:=J;subst this;exact⟨[],rfl,λb _=>rfl,λb s d _=>⟨d,λi _=>by rw[nQ];rfl⟩⟩
 |n+1,a,r,z,B,o=>by
  rw[nZ];by_cases f:r=0;rw[aI f];subst f;exact⟨[],rfl,λb _=>rfl,λb s d _=>⟨d,λi _=>by rw[nQ];rfl⟩⟩;rw[aK f];have y:a/128<38:=J;rw[asi y (λe=>by have:=o e;omega),zip];generalize C:min (128-a%128) r=c;have g:0<c:=J;have h:a%128+c<=128:=J;have v:c<=r:=J;obtain⟨q,e,rd,wr⟩:=XB (w:=w) x n (a+c) (r-c) J J (λe=>by have:=o e;omega);refine⟨_,by rw[e];rfl,λb d=>?_,λb s d hs=>?_⟩;rw[List.flatMap_cons,rd b d,aiV d J h g,<-aqD,(J:c+(r-c)=r)];have A:(s.take c).length=c:=by rw[bp];omega
  have p:=afB d (a:=a) (t:=s.take c) J J J;rw[Mm];simp only[au];have u:=wr _ (s.drop c) p.1 (by rw[bA];omega);refine⟨u.1,λi l=>?_⟩;rw[u.2 i l];by_cases j:a+c<=i/\i<a+c+(r-c)
  rw[aI j,zip,bH,bH,cA];congr 2;omega;rw[aK j,p.2 i l,A];by_cases k:a<=i/\i<a+c;rw[aI k,zip,bH,bH,ft J];rw[aK k,nQ]
theorem aa8 (c:fR m){w}{r:Nat}(h:r<=4096)(f:a+r<=4864)(g:w=O->a+r<=256\/1280<=a):∃q,pO (bV 38) m 0 (a:Int) (r:Int) w=(q,O)/\ (∀b,fR b->q.flatMap (nb b)=xZ b a r)/\ ∀b s,fR b->s.length=r->fR (Mm q b s)/\∀i,i<4864->mB (Mm q b s) i=if a<=i/\i<a+r then s.getD (i-a) 0 else mB b i:=by unfold pO;rw[asa,c.ok,aR.2 ⟨J,J⟩];simp only[bR,ae];by_cases d:r=0;subst d;exact⟨[],rfl,λb _=>rfl,λb s c _=>⟨c,λi _=>by rw[nQ];rfl⟩⟩;rw[show((r:Int)==0)=G from by rw[cc];omega,ab,ga,ab,au,au];obtain⟨q,e,rd,wr⟩:=XB (w:=w) c.ln r a r (bq r) f g;rw[e];exact⟨q,rfl,rd,wr⟩
theorem MG (c:fR m){r:Nat}(d:r<=4096:=by omega)(b:a+r<=4864:=by omega):sA (bV 38) m 0 (a:Int) (r:Int)=(xZ m a r,O):=by obtain⟨q,e,rd,_⟩:=aa8 (w:=false) c d b aD;grind[sA]
theorem Ir (c:fR m){w}(d:s.length<=4096)(b:a+s.length<=4864)(f:w=O->a+s.length<=256\/1280<=a):(ko (bV 38) m 0 (a:Int) s w).2=O/\fR (ko (bV 38) m 0 (a:Int) s w).1/\∀i,i<4864->mB (ko (bV 38) m 0 (a:Int) s w).1 i=if a<=i/\i<a+s.length then s.getD (i-a) 0 else mB m i:=by obtain⟨q,e,_,wr⟩:=aa8 (w:=w) c d b f;grind[ko]
def bU (l:Z cE)(m:cL)(d:Int)(r:rn):Bytes×rn×Bool:=
 bif !eQ r||(cQ r==0) then([],r,G) else
 bif !(sA l m d (ya r r.2.2.1) 16).2 then([],r,G) else
 ((sA l m d (ya r r.2.2.1) 16).1,(r.1,r.2.1,tmod (r.2.2.1+1) (2*r.2.1),r.2.2.2),O)
theorem R2 l m d(r:rn)(b:l.length<=10^9)(c:m.length<=10^9):AG l m d r=I (bU l m d r):=by have e:=KL r r.2.2.1;unfold AG bU;simp only[F9,IB,aa,abl,Ju l m d _ 16 b c (J:ya r r.2.2.1<=9223372036854775807)];cases a:eQ r;rfl;have h:=pF a;grind[aa,aj]
theorem Q2 l m d(r:rn)(b:l.length<=10^9)(c:m.length<=10^9):Au l m d r=I (bU l m d r):=by have e:=KL r r.2.2.1;unfold Au bU;simp only[FR,Ia,aa,aar,Jd l m d _ 16 b c (J:ya r r.2.2.1<=9223372036854775807)];cases a:eQ r;rfl;have h:=pF a;grind[aa,aj]
theorem FL l m d r:(bU l m d r).1.length<=100000000:=by grind[bU,MF]
theorem IM (h:(bU l m d r).2.2=O): eQ (bU l m d r).2.1=O/\cQ (bU l m d r).2.1=cQ r-1/\(bU l m d r).2.1.1=r.1/\(bU l m d r).2.1.2.1=r.2.1/\(bU l m d r).2.1.2.2.2=r.2.2.2:=by
 unfold bU at h⊢;cases a:eQ r with|false=>grind|true=>?_
 cases b:cQ r==0 with|true=>grind|false=>?_
 cases hd:(sA l m d (ya r r.2.2.1) 16).2 with|false=>grind|true=>?_
 grind[pF,eQ,cQ,aR]
theorem qF (h:eQ r=O):0<=cQ r/\cQ r<=16:=by have a:=pF h;grind[eQ,cQ]
def Mb:KW:=(0,0,0,0,0,0)
def K4 s:=((cr s 0:Int),(cr s 1:Int),dg s 2,eK s 4,dg s 8,dg s 10)
def dV s:=
 bif ((s.length:Int) !=16) then(Mb,G) else bif !(iM (K4 s)==s) then(Mb,G) else(K4 s,O)
theorem agd s(h:s.length<=10^9):vK s=I (dV s):=by
 unfold vK dV;cases d:(s.length:Int) !=16;case true=>rfl
 have c:s.length=16:=by grind
 have a:=nU (s[0]'J);have b:=nU (s[1]'J);have i0:idx s 0=I (s[0]'J):=aP (i:=0) J;have i1:idx s 1=I (s[1]'J):=aP (i:=1) J;have e:(((s[0]'J).toNat:Int),((s[1]'J).toNat:Int),dg s 2,eK s 4,dg s 8,dg s 10)=K4 s:=by grind[K4,cr]
 simp only[ab,i0,i1,aa,yY s _ h,EH s _ h];rw[jf (n:=(s[0]'J).toNat) J,jf (n:=(s[1]'J).toNat) J,e,ac6,aa];cases iM (K4 s)==s<;>rfl
theorem aeQ s(h:s.length<=10^9):vu s=I (dV s):=by
 unfold vu dV;cases d:(s.length:Int) !=16;case true=>rfl
 have c:s.length=16:=by grind
 have a:=nU (s[0]'J);have b:=nU (s[1]'J);have i0:idx s 0=I (s[0]'J):=aP (i:=0) J;have i1:idx s 1=I (s[1]'J):=aP (i:=1) J;have e:(((s[0]'J).toNat:Int),((s[1]'J).toNat:Int),dg s 2,eK s 4,dg s 8,dg s 10)=K4 s:=by grind[K4,cr]
 simp only[ab,i0,i1,aa,Em s _ h,En s _ h];rw[jf (n:=(s[0]'J).toNat) J,jf (n:=(s[1]'J).toNat) J,e,acr,aa];cases iM (K4 s)==s<;>rfl
theorem Wc (h:(dV s).2=O):ot (dV s).1=true:=by grind[dV,iM]
def GN (x:KW):=bif x.1==1 then(V (BitVec.toNat (ie x.2.1&&&ie 1))) !=0 else G
def qU (l:Z cE)(m:cL)(d:Int):Nat->Z KW->rn->Z KW×rn×Bool
 |0,a,r=>(a,r,O)
 |n+1,a,r=>
  bif !(bU l m d r).2.2|| !(dV (bU l m d r).1).2 then([],(r.1,r.2.1,r.2.2.2,r.2.2.2),G) else
  bif GN (dV (bU l m d r).1).1 then(a++[(dV (bU l m d r).1).1],(bU l m d r).2.1,O) else
  qU l m d n (a++[(dV (bU l m d r).1).1]) (bU l m d r).2.1
def fy l m d r:=
 bif !eQ r||(cQ r==0) then([],r,G) else qU l m d (cQ r).toNat [] r
theorem OY (i:Z KW->rn->aS R)(k1:Z KW->Bool->Z KW->rn->rn->aS R)(K:Z KW×rn×Bool->aS R)
 (h:∀a r,i a r=K (a,r,O)) (l:Z cE) (m:cL) (d:Int) (B E:rn) (o:∀a r,k1 [] G a r E=K ([],E,G)) (j:l.length<=10^9) (k:m.length<=10^9):∀(n:Nat)(b:Z KW)(r:rn)(f:Nat),
 n<f->eQ r=O->(cQ r).toNat=n->b.length+n<=1000->E=(r.1,r.2.1,r.2.2.2,r.2.2.2)->aQ (qz i k1 l d ([]:Z KW) G m B E) f (b,r)=K (qU l m d n b r)
 |n,b,r,0,hf,_,_,_,_=>J
 |0,b,r,f+1,hf,s,v,q,p=>by rw[aQ];simp only[qz,Ia,aa];rw[ga,ab,h];rfl
 |n+1,b,r,f+1,hf,s,v,q,p=>by
  have c:=FL l m d r;have g:=IM (l:=l) (m:=m) (d:=d) (r:=r);rw[aQ];simp only[qz,Ia,aa];rw[iG,ae,Q2 l m d r j k,aa,qU];generalize bU l m d r=t at c g⊢;cases u:t.2.2 with
  |false=>grind
  |true=>
   have g:=g u;simp only[ak,ab,cq];rw[aeQ _ (J:t.1.length<=10^9),aa];generalize dV t.1=x;cases x.2 with
   |false=>grind
   |true=>
    simp only[ak,ab];rw[aU (by rw[aO];omega)];have e:(U (cond (x.1.1==1) (I ((V (BitVec.toNat (ie x.1.2.1&&&ie 1))) !=0)) (I G)):(Bool->aS R)->aS R)=λK=>K (GN x.1):=by funext K;simp_all[GN]
    rw[e];cases GN x.1 with|true=>simp only[ae,h]|false=>simp only[ab];exact OY i k1 K h l m d B E o j k n _ _ f J g.1 J (by simp;omega) gA
theorem O9 (i:Z KW->rn->aS R)(k1:Z KW->Bool->Z KW->rn->rn->aS R)(K:Z KW×rn×Bool->aS R)
 (h:∀a r,i a r=K (a,r,O)) (l:Z cE) (m:cL) (d:Int) (B:rn) (o:∀a r,k1 [] G a r r=K ([],r,G)) (j:l.length<=10^9) (k:m.length<=10^9):∀(n:Nat)(b:Z KW)(r:rn)(f:Nat),
 n<f->eQ r=O->(cQ r).toNat=n->b.length+n<=1000->aQ (qR i k1 l d ([]:Z KW) G m B) f (b,r)=K (qU l m d n b r)
 |n,b,r,0,hf,_,_,_=>J
 |0,b,r,f+1,hf,q,u,p=>by rw[aQ];simp only[qR,IB,aa];rw[ga,ab,h];rfl
 |n+1,b,r,f+1,hf,q,u,p=>by
  have c:=FL l m d r;have g:=IM (l:=l) (m:=m) (d:=d) (r:=r);rw[aQ];simp only[qR,IB,aa];rw[iG,ae,R2 l m d r j k,aa,qU];generalize bU l m d r=t at c g⊢;rw[agd _ (J:t.1.length<=10^9),aa];generalize dV t.1=x;cases s:t.2.2 with
  |false=>simp_all
  |true=>
   have g:=g s;simp only[ak,ab,aa,cq];cases x.2 with
   |false=>grind
   |true=>
    simp only[ak,ab];rw[aU (by rw[aO];omega)];have e:(U (cond (x.1.1==1) (I ((V (BitVec.toNat (ie x.1.2.1&&&ie 1))) !=0)) (I G)):(Bool->aS R)->aS R)=λK=>K (GN x.1):=by funext K;simp_all[GN]
    rw[e];cases GN x.1 with|true=>simp only[ae,h]|false=>simp only[ab];exact O9 i k1 K h l m d B o j k n _ _ f J g.1 J (by simp;omega)
theorem Y4 l m d(r:rn)(c:l.length<=10^9)(e:m.length<=10^9):C0 l m d r=I (fy l m d r):=by
 have b:=dB;unfold C0 fy;simp only[FR,Ia,aa];cases a:eQ r;rfl;cases cQ r==0;case true=>rfl
 have f:=qF a;simp only[ak,ab,aa,bL];exact OY _ _ (λx=>I x) (λ_ _=>rfl) l m d _ _ (λ_ _=>rfl) c e _ [] r fuel J a rfl (by simp;omega) rfl
theorem Zo l m d(r:rn)(c:l.length<=10^9)(e:m.length<=10^9):DN l m d r=I (fy l m d r):=by
 have b:=dB;unfold DN fy;simp only[F9,IB,aa];cases a:eQ r;rfl;cases cQ r==0;case true=>rfl
 have f:=qF a;simp only[ak,ab,aa,bL];exact O9 _ _ (λx=>I x) (λ_ _=>rfl) l m d _ (λ_ _=>rfl) c e _ [] r fuel J a rfl (by simp;omega)
def PG (v:Vector):=bif decide (v.2.2.1>=1) then(bif decide (v.2.2.1>=v.1) then O else decide (v.2.2.2.1>=v.2.1)) else G
theorem arV v:Kr v=I (PG v):=by unfold Kr PG;cases decide (v.2.2.1>=1);all_goals simp_all
theorem ak2 v:yj v=I (PG v):=by unfold yj PG;cases decide (v.2.2.1>=1);all_goals simp_all
def wz (v:Vector):Vector:=bif PG v&& !v.2.2.2.2.1 then(v.1,v.2.1,v.2.2.1,v.2.2.2.1,v.2.2.2.2.1,O) else v
theorem SP v:uE v=I (wz v):=by grind[uE,wz,arV,aa]
theorem Tx v:rl v=I (wz v):=by grind[rl,wz,ak2,aa]
def upM n:=if 1000000<V (n+1) then 1000000 else V (n+1)
theorem ale n:(if V (n+1)<1000000 then V (n+1) else 1000000)=upM n:=by grind[upM]
def evV v:=bif fO v then wz (v.1,v.2.1,upM v.2.2.1,v.2.2.2) else v
theorem amb v:EW v=I (evV v):=by unfold EW evV;rw[Ib,aa,SP,aa];cases fO v<;>rfl
theorem anL v:Fj v=I (evV v):=by grind[Fj,evV,yb,aa,ale,Tx]
def DY v:=bif fO v then(bif decide (v.2.2.1>0) then wz (v.1,v.2.1,v.2.2.1,upM v.2.2.2.1,v.2.2.2.2) else wz v) else v
theorem amA v:Bc v=I (DY v):=by unfold Bc DY;simp only[Ib,aa,SP];cases fO v;rfl;cases decide (v.2.2.1>0)<;>rfl
theorem an3 v:Bq v=I (DY v):=by grind[Bq,DY,yb,aa,ale,Tx]
def rA (v:Vector):Vector×Bool:=bif fO v&&v.2.2.2.2.2 then((v.1,v.2.1,0,0,O,G),O) else(v,G)
theorem amz v:uC v=I (rA v):=by grind[uC,rA,Ib,aa]
theorem an2 v:vc v=I (rA v):=by grind[vc,rA,yb,aa]
def D4 v:=bif fO v then wz (v.1,v.2.1,v.2.2.1,v.2.2.2.1,G,v.2.2.2.2.2) else v
theorem Xa v:FV v=I (D4 v):=by grind[FV,D4,Ib,aa,SP]
theorem Yg v:Gb v=I (D4 v):=by grind[Gb,D4,yb,aa,Tx]
structure oM (k:Nat) (a b:Host):Prop where
 mem:b.1.length=a.1.length
 maps:b.2.1=a.2.1
 tx:b.2.2.1=a.2.2.1
 rx:b.2.2.2.1.length=a.2.2.2.1.length
 rxs:∀j,k<=j->b.2.2.2.1[j]?=a.2.2.2.1[j]?
 pl:b.2.2.2.2.1.length=a.2.2.2.2.1.length
 vec:b.2.2.2.2.2.1.length=a.2.2.2.2.2.1.length
 ZA:∀j,k<=j->b.2.2.2.2.2.1[j]?=a.2.2.2.2.2.1[j]?
 pol:b.2.2.2.2.2.2.1.length=a.2.2.2.2.2.2.1.length
 oB:b.2.2.2.2.2.2.2.1=a.2.2.2.2.2.2.2.1
 Mo:b.2.2.2.2.2.2.2.2.1=a.2.2.2.2.2.2.2.2.1
theorem oM.refl k a:oM k a a:=⟨rfl,rfl,rfl,rfl,λ_ _=>rfl,rfl,rfl,λ_ _=>rfl,rfl,rfl,rfl⟩
theorem oM.trans {k a b c}(h:oM k a b)(g:oM k b c):oM k a c:=⟨g.mem.trans h.mem,g.maps.trans h.maps,g.tx.trans h.tx,g.rx.trans h.rx,λj d=>(g.rxs j d).trans (h.rxs j d),g.pl.trans h.pl,g.vec.trans h.vec,λj d=>(g.ZA j d).trans (h.ZA j d),g.pol.trans h.pol,g.oB.trans h.oB,g.Mo.trans h.Mo⟩
theorem oM.up {k m a b}(h:oM k a b)(d:k<=m):oM m a b:=⟨h.mem,h.maps,h.tx,h.rx,λj c=>h.rxs j J,h.pl,h.vec,λj c=>h.ZA j J,h.pol,h.oB,h.Mo⟩
def eV (g:Nat->Host->Host):Nat->Host->Host
 |0,h=>h
 |k+1,h=>g k (eV g k h)
theorem mf (a:∀k h,oM (k+1) h (g k h))(h:Host):∀k,oM k h (eV g k h)
 |0=>oM.refl 0 h
 |k+1=>((mf a h k).up J).trans (a k _)
theorem IJ {d n:Nat}(hn:1000<=n)(a:∀k h m,1000<=m->cJ m fC h->cJ (m+d) fC (g k h))(z:cJ n fC h):∀k,cJ (n+d*k) fC (eV g k h)
 |0=>z
 |k+1=>(a k _ _ J (IJ hn a z k)).mono (by rw[Nat.mul_add];omega)
def kQ (i:Nat)(h:Host):Host:=
 match h.2.2.2.2.2.1[i]? with
 |some v=>(h.1,h.2.1,h.2.2.1,h.2.2.2.1,h.2.2.2.2.1,h.2.2.2.2.2.1.set i (DY v),h.2.2.2.2.2.2)
 |none=>h
theorem yn i h:oM (i+1) h (kQ i h):=by unfold kQ;cases h.2.2.2.2.2.1[i]? with|none=>exact oM.refl _ _|some v=>exact⟨rfl,rfl,rfl,rfl,λ_ _=>rfl,rfl,aC ..,λj a=>aJ J,rfl,rfl,rfl⟩
theorem VI {n}{l:Z Vector}{i v}(z:cJ n (.sl NS) l):cJ n (.sl NS) (l.set i v):=sW z ⟨B,B,B,B,B,B⟩
theorem aoh i(h:Host)n(hn:1000<=n)(z:cJ n fC h):cJ (n+0) fC (kQ i h):=by unfold kQ;cases h.2.2.2.2.2.1[i]? with|none=>exact z|some v=>exact⟨z.1,z.2.1,z.2.2.1,z.2.2.2.1,z.2.2.2.2.1,VI z.2.2.2.2.2.1,z.2.2.2.2.2.2⟩
def kX h:=bif eJ h then eV kQ h.2.2.2.2.2.1.length h else h
theorem aq6 {n}(hn:1000<=n)(z:cJ n fC h):cJ n fC (kX h)/\(kX h).2.2.1=h.2.2.1:=by unfold kX;cases eJ h with|false=>exact⟨z,rfl⟩|true=>exact⟨(IJ hn aoh z _).mono,(mf yn h _).tx⟩
theorem W9 h(k:KX h)(z:cJ 1000000000 fC h):wo h=I (kX h):=by
 have a:=dB;unfold wo kX;rw[mu h z,aa,CF h k,aa];cases e:eJ h;rfl;have f:h.2.2.2.2.2.1.length<=10^9:=z.2.2.2.2.2.1.1;simp only[ak,ab,ae];refine bJ (λi=>((i:Int),eV kQ i h)) h.2.2.2.2.2.1.length J (λi d b=>?_) (λd=>?_);have c:=mf yn h i;have i1:i<(eV kQ i h).2.2.2.2.2.1.length:=by rw[c.vec];exact b
 rw[show eV kQ (i+1) h=kQ i (eV kQ i h) from rfl];generalize eV kQ i h=s at i1⊢;simp only[yB,kQ];rw[iG,ae,ah i1];simp only[aP i1,aa,amA,au];rw[aj J J];rfl;simp only[yB];rw[ga,ab]
theorem Yf h(k:KX h)(z:cJ 1000000000 fC h):wv h=I (kX h):=by
 have f:=dB;unfold wv kX;rw[mF h z,aa];have m:h.2.2.2.2.2.1.length<=10^9:=z.2.2.2.2.2.1.1;cases d:eJ h with
 |false=>
  obtain⟨g,j⟩:∃g,fuel=g+1:=⟨fuel-1,J⟩
  rw[j,aQ,tH,vI h k,d];cases decide ((0:Int)<(h.2.2.2.2.2.1.length:Int))<;>rfl
 |true=>
  simp only[ae];refine bJ (λi=>((i:Int),eV kQ i h)) h.2.2.2.2.2.1.length J (λi l a=>?_) (λl=>?_);have e:=mf yn h i;have i1:i<(eV kQ i h).2.2.2.2.2.1.length:=by rw[e.vec];exact a
  have b:=e.ZA i (bq _);rw[ah i1,ah a]at b;have c:=bu b;rw[show eV kQ (i+1) h=kQ i (eV kQ i h) from rfl];generalize eV kQ i h=s at i1 c⊢;simp only[tH,kQ,vI h k,d];rw[iG,ae,ah i1];simp only[aP i1,aP a,aa,an3,au,ae,c];rw[aj J J];rfl;simp only[tH];rw[ga,ab,aa,ab]
def Aa (x:ON):=dF x.1 0 65535&&(dF x.2.1 0 65535&&(dF x.2.2.1 0 65535&&(dF x.2.2.2.1 0 65535&&dF x.2.2.2.2 0 4294967295)))
theorem aaj (x:ON):qp x=I (Aa x):=by simp_all[qp,cP,cD,Aa]
theorem abe (x:ON):qI x=I (Aa x):=by simp_all[qI,cz,cD,Aa]
def UZ x p:=bif Aa x&&dF p 0 1 then((((aG x.1++aG x.2.1)++aG x.2.2.1)++aG x.2.2.2.1)++cx x.2.2.2.2)++cx p else []
theorem apE (x:ON)p:pB x p=I (UZ x p):=by have a:=cj x.1;have b:=cj x.2.1;have c:=cj x.2.2.1;have d:=cj x.2.2.2.1;have e:=eG x.2.2.2.2;have f:=eG p;unfold pB UZ;simp only[aaj,cP,aa,oR,BN];grind[aa,aU]
theorem aqP (x:ON)p:pH x p=I (UZ x p):=by have a:=cj x.1;have b:=cj x.2.1;have c:=cj x.2.2.1;have d:=cj x.2.2.2.1;have e:=eG x.2.2.2.2;have f:=eG p;unfold pH UZ;simp only[abe,cz,aa,kg,mc];grind[aa,aU]
def vF l m d q x:=
 bif !iE q|| !Aa x then(m,q,G) else
 bif !(ko l m d (pQ q) (UZ x (Io q)) O).2 then(m,q,G) else
 ((ko l m d (pQ q) (UZ x (Io q)) O).1,(q.1,q.2.1,tmod (q.2.2+1) (2*q.2.1)),O)
theorem apO l m d(q:J6)(x:ON)(b:l.length<=10^9)(c:m.length<=10^9):ux l m d q x=I (vF l m d q x):=by unfold ux vF;simp only[SV,aaj,aa,jk m (J:m.length<=1073741824),aao,apE];cases a:iE q;rfl;have h:=ph a;have hs:=VE a;cases Aa x;rfl;simp only[ak,ab,aa,bL,aas q a,Lg l m d _ _ b c (show pQ q<=9223372036854775807 by unfold pQ;omega)];grind[aaV,aj]
theorem aqX l m d(q:J6)(x:ON)(b:l.length<=10^9)(c:m.length<=10^9):uV l m d q x=I (vF l m d q x):=by
 unfold uV vF;simp only[TD,abe,aa,kG m (J:m.length<=1073741824),aqP];cases a:iE q;rfl;have h:=ph a;have hs:=VE a;cases Aa x;rfl;have e:V (q.1+V (16*tmod q.2.2 q.2.1))=pQ q:=by grind[aj,pQ]
 simp only[ak,ab,aa,bL,abi q a,e,He l m d _ _ b c (show pQ q<=9223372036854775807 by unfold pQ;omega)];grind[aj]
theorem anw {n}(hn:128<=n)(z:cJ n (.sl .str) m)l d q x:cJ n (.sl .str) (vF l m d q x).1/\(vF l m d q x).1.length=m.length:=by grind[vF,Nn,pe]
theorem asl {q x}(h:iE q=O):iE (vF l m d q x).2.1=O/\(vF l m d q x).2.1.1=q.1/\(vF l m d q x).2.1.2.1=q.2.1:=by have a:=ph h;grind[vF,iE,aR,HK]
def iP (l:Z cE)(m:cL)(d:Int)(q:dq)(k:Bytes)(s:Bytes):cL×J6×Bool:=
 bif !(dV s).2||(((dV s).1.1 !=3)||decide ((dV s).1.2.2.1<((dE q.2.2.2.1.1).1.length:Int))) then(m,q.2.1,G) else
 bif !(ko l m d (dV s).1.2.2.2.1 (dE q.2.2.2.1.1).1 O).2 then(m,q.2.1,G) else
 vF l (ko l m d (dV s).1.2.2.2.1 (dE q.2.2.2.1.1).1 O).1 d q.2.1 ((dV s).1.2.2.2.2.2,((dE q.2.2.2.1.1).1.length:Int),q.2.2.2.1.2.1,q.2.2.2.1.2.2,Ca k (xD (fI q.2.2.2.1.1)))
theorem an0 l m d q k s(c:l.length<=10^9)(e:m.length<=10^9)(hs:s.length<=10^9):FH l m d q s k=I (iP l m d q k s):=by
 unfold FH iP;have a:=Wc (s:=s);simp only[agd s hs,KO,aa,kG m (J:m.length<=1073741824)];generalize dV s=x at a⊢;cases b:x.2;rfl;have hd:=a b;simp only[ot,af,aR]at hd;cases x.1.1 !=3;case true=>rfl
 cases decide (x.1.2.2.1<((dE q.2.2.2.1.1).1.length:Int));all_goals grind[aa,He,RT,RU,aqX,pe]
theorem amx l m d q k s(c:l.length<=10^9)(e:m.length<=10^9)(hs:s.length<=10^9)(f:di q.2.2.2.1.1=O):∃b,Dd l m d q k s=I (b,iP l m d q k s)/\(b=G->iP l m d q k s=(m,q.2.1,G)):=by
 unfold Dd iP;have a:=Wc (s:=s);simp only[aeQ s hs,Km,aa,El f];generalize dV s=x at a⊢;cases g:x.2;exact⟨G,rfl,λ_=>rfl⟩;have hd:=a g;simp only[ot,af,aR]at hd;cases x.1.1 !=3;case true=>simp_all
 cases decide (x.1.2.2.1<((dE q.2.2.2.1.1).1.length:Int));case true=>simp_all
 simp only[ak,ab,aa,bL,Lg l m d _ _ c e (J:x.1.2.2.2.1<=9223372036854775807)];cases (ko l m d x.1.2.2.2.1 (dE q.2.2.2.1.1).1 O).2;exact⟨G,rfl,λ_=>rfl⟩;simp only[ak,ab,W1,aa,QU,apO l _ d _ _ c (show(ko l m d x.1.2.2.2.1 (dE q.2.2.2.1.1).1 O).1.length<=10^9 by rw[pe];exact e)];grind
theorem abv {n}(hn:128<=n){q k}(z:cJ n (.sl .str) m)(a:iE q.2.1=O): cJ n (.sl .str) (iP l m d q k s).1/\(iP l m d q k s).1.length=m.length/\iE (iP l m d q k s).2.1=O/\(iP l m d q k s).2.1.1=q.2.1.1/\(iP l m d q k s).2.1.2.1=q.2.1.2.1:=by
 unfold iP;cases !(dV s).2||(((dV s).1.1 !=3)||decide ((dV s).1.2.2.1<((dE q.2.2.2.1.1).1.length:Int)));case true=>grind
 cases (ko l m d (dV s).1.2.2.2.1 (dE q.2.2.2.1.1).1 O).2;all_goals grind[Nn,pe,anw,asl]
def iw l m d q k:=
 bif !KI q||(!q.2.2.2.2.1||((k.length:Int) !=16)) then(m,q) else
 bif (bU l m d q.1).2.2&&(iP l m d q k (bU l m d q.1).1).2.2 then
  ((iP l m d q k (bU l m d q.1).1).1,(bU l m d q.1).2.1,(iP l m d q k (bU l m d q.1).1).2.1,q.2.2.1,aoe,G,q.2.2.2.2.2)
 else(m,(bU l m d q.1).2.1,q.2.1,q.2.2.1,aoe,G,V (q.2.2.2.2.2+q.2.2.2.1.2.2))
theorem agF (h:(bU l m d r).2.2=G):(bU l m d r).2.1=r:=by grind[bU]
theorem F6 {q}(h:KI q=O):iE q.2.1=O/\(q.2.2.2.2.1=O->di q.2.2.2.1.1=O):=by grind[KI]
theorem TA l m d q k(a:l.length<=10^9)(b:m.length<=10^9):tB l m d q k=I (iw l m d q k):=by
 have c:=FL l m d q.1;unfold tB iw;simp only[adf,aa,kG m (J:m.length<=1073741824),R2 l m d q.1 a b,an0 l m d q k _ a b (J:(bU l m d q.1).1.length<=10^9)];cases KI q;rfl;cases q.2.2.2.2.1;rfl;cases (k.length:Int) !=16;case true=>rfl
 simp only[ak,ab,aa,bL];cases (bU l m d q.1).2.2;rfl;cases (iP l m d q k (bU l m d q.1).1).2.2<;>rfl
theorem SS l m d q k(f:l.length<=10^9)(g:m.length<=10^9):sK l m d q k=I (iw l m d q k):=by
 have n:=FL l m d q.1;have c:=agF (l:=l) (m:=m) (d:=d) (r:=q.1);unfold sK iw;simp only[acy,aa,jk m (J:m.length<=1073741824),Q2 l m d q.1 f g];cases j:KI q;rfl;cases h:q.2.2.2.2.1;rfl;cases (k.length:Int) !=16;case true=>rfl
 obtain⟨b,e,a⟩:=amx l m d q k (bU l m d q.1).1 f g J ((F6 j).2 h);simp only[ak,ab,aa,bL,e];generalize iP l m d q k (bU l m d q.1).1=s at e a⊢;cases i:(bU l m d q.1).2.2 with|false=>rw[c i];rfl|true=>?_
 cases b with|true=>cases hs:s.2.2<;>rfl|false=>rw[a rfl];rfl
theorem N4 {n}(hn:128<=n){q:dq}{k}(z:cJ n (.sl .str) m)(e:cJ n qe q): cJ n (.sl .str) (iw l m d q k).1/\(iw l m d q k).1.length=m.length/\cJ n qe (iw l m d q k).2/\(KI q=O->iE (iw l m d q k).2.2.1=O/\(iw l m d q k).2.2.1.2.1=q.2.1.2.1):=by
 unfold iw;cases a: !KI q||(!q.2.2.2.2.1||((k.length:Int) !=16));case true=>grind[F6]
 simp only[dj,eH]at a;have b:=(F6 a.1).1;have hs:=abv hn (l:=l) (d:=d) (k:=k) (s:=(bU l m d q.1).1) z b;have c:cJ n qe ((bU l m d q.1).2.1,(iP l m d q k (bU l m d q.1).1).2.1,q.2.2.1,aoe,G,q.2.2.2.2.2):=⟨⟨B,B,B,B⟩,⟨B,B,B⟩,⟨B,B,B⟩,⟨⟨B,B,B,B,B,B,B,B,B,B,B,B,B,B,B,cg _⟩,B,B⟩,B,B⟩
 cases (bU l m d q.1).2.2&&(iP l m d q k (bU l m d q.1).1).2.2 with|true=>grind|false=>exact⟨z,rfl,⟨⟨B,B,B,B⟩,⟨B,B,B⟩,⟨B,B,B⟩,⟨⟨B,B,B,B,B,B,B,B,B,B,B,B,B,B,B,cg _⟩,B,B⟩,B,B⟩,λ_=>⟨b,rfl⟩⟩
theorem BQ {b n}(h:∀j,j<n->mB b (a+j)=mB m (a+j)):xZ b a n=xZ m a n:=List.map_congr_left λj c=>h j (bK.1 c)
theorem RA (h:∀j,j<s.length->mB m (a+j)=s.getD j 0):xZ m a s.length=s:=by refine List.ext_getElem (afV ..) λj c b=>?_;have e:=aqE m a s.length j b;grind
def fZ (b S hd n:Nat):=((b:Int),(S:Int),((hd%(2*S):Nat):Int),(((hd+n)%(2*S):Nat):Int))
theorem ti {b S n}(c:S=4\/S=16)(d:b<=130944)(hn:n<=S):eQ (fZ b S hd n)=O/\cQ (fZ b S hd n)=(n:Int):=by
 have hs:lG (S:Int)=true:=jN.2 J;have a:cQ (fZ b S hd n)=(n:Int):=by grind[cQ,fZ]
 refine⟨?_,a⟩;have e:eQ (fZ b S hd n)=(dF (b:Int) 0 130944&&(lG (S:Int)&&(dF ((hd%(2*S):Nat):Int) 0 (2*(S:Int)-1)&&(dF (((hd+n)%(2*S):Nat):Int) 0 (2*(S:Int)-1)&&decide (cQ (fZ b S hd n)<=(S:Int)))))):=rfl;grind[aR]
theorem as8 {b S n c}(a:S=4\/S=16)(d:b<=130944)(hn:n<=S):ya (fZ b S hd n) ((c%(2*S):Nat):Int)=((b+16*(c%S):Nat):Int):=by unfold ya;rw[(ti a d hn).1,ga];show(b:Int)+tmod ((c%(2*S):Nat):Int) (S:Int)*16=_;grind
structure uc (m:List Bytes) (b S hd:Nat) (E:List Bytes):Prop where
 len:E.length<=S
 get:∀j,j<E.length->xZ m (b+16*((hd+j)%S)) 16=E.getD j []
theorem uc.frame {m' b S E}(r:uc m b S hd E)(c:S=4\/S=16)(h:∀i,b<=i->i<b+16*S->mB m' i=mB m i):uc m' b S hd E:=⟨r.len,λj a=>by rw[BQ λi d=>h _ J gA];exact r.get j a⟩
theorem HM (k:fR m){b S e E}(f:S=4\/S=16)(l:b+16*S<=4864)(r:uc m b S hd (e::E)):bU (bV 38) m 0 (fZ b S hd (E.length+1))=(e,fZ b S (hd+1) E.length,O)/\uc m b S (hd+1) E:=by
 have g:E.length+1<=S:=r.len;have v:=ti (hd:=hd) f (J:b<=130944) g;have sl:=as8 (b:=b) (hd:=hd) (n:=E.length+1) (c:=hd) f J g;have i:xZ m (b+16*(hd%S)) 16=e:=r.get 0 aD;have d:=MG k (a:=b+16*(hd%S)) (r:=16) J (by rcases f with rfl|rfl<;>omega);refine⟨?_,⟨J,λj o=>?_⟩⟩;unfold bU;rw[v.1,v.2,show(((E.length+1:Nat):Int)==0)=G from by rw[cc];omega];show(bif G then _ else bif !(sA (bV 38) m 0 (ya (fZ b S hd (E.length+1)) ((hd%(2*S):Nat):Int)) 16).2 then _ else _)=_;rw[ab];show(bif !(sA (bV 38) m 0 (ya (fZ b S hd (E.length+1)) ((hd%(2*S):Nat):Int)) 16).2 then _ else((sA (bV 38) m 0 (ya (fZ b S hd (E.length+1)) ((hd%(2*S):Nat):Int)) 16).1,((b:Int),(S:Int),tmod (((hd%(2*S):Nat):Int)+1) (2*(S:Int)),(((hd+(E.length+1))%(2*S):Nat):Int)),O))=_;rw[sl,show((16:Int))=((16:Nat):Int) from rfl,d,i];simp only[ak,ab];have h:tmod (((hd%(2*S):Nat):Int)+1) (2*(S:Int))=(((hd+1)%(2*S):Nat):Int):=by rw[(J:((hd%(2*S):Nat):Int)+1=((hd%(2*S)+1:Nat):Int)),(J:(2*(S:Int))=((2*S:Nat):Int)),Sd];rcases f with rfl|rfl<;>omega
 rw[h,(J:hd+(E.length+1)=hd+1+E.length)];rfl;have:=r.get (j+1) (by simp;omega);rw[(J:hd+(j+1)=hd+1+j)]at this;exact this
theorem abz {b S}(a:S=4\/S=16)(c:b<=130944:=by omega):bU (bV 38) m 0 (fZ b S hd 0)=([],fZ b S hd 0,G):=by grind[ti,bU]
theorem afM (y:fR m){b S E}(d:S=4\/S=16)(A:b+16*S<=256\/1280<=b/\b+16*S<=4864)(r:uc m b S hd E)(B:E.length<S)(o:s.length=16): (dL (bV 38) m 0 (fZ b S hd E.length) s).2=(fZ b S hd (E.length+1),O)/\fR (dL (bV 38) m 0 (fZ b S hd E.length) s).1/\uc (dL (bV 38) m 0 (fZ b S hd E.length) s).1 b S hd (E++[s])/\∀i,i<4864->(i<b\/b+16*S<=i)->mB (dL (bV 38) m 0 (fZ b S hd E.length) s).1 i=mB m i:=by
 have q:E.length<=S:=r.len;have f:b<=130944:=J;have v:=ti (hd:=hd) d f q;have sl:=as8 (b:=b) (hd:=hd) (n:=E.length) (c:=hd+E.length) d f q;have p:=Ir y (a:=b+16*((hd+E.length)%S)) (s:=s) (w:=true) J (by rcases d with rfl|rfl<;>omega) (λ_=>by rcases d with rfl|rfl<;>omega);have x:rp (fZ b S hd E.length)=((S-E.length:Nat):Int):=by unfold rp;rw[v.1,v.2,ae];show V ((S:Int)-(E.length:Int))=_;rw[aj J J];omega
 have e:dL (bV 38) m 0 (fZ b S hd E.length) s=((ko (bV 38) m 0 ((b+16*((hd+E.length)%S):Nat):Int) s O).1,fZ b S hd (E.length+1),O):=by
  unfold dL;rw[x,o,show(((S-E.length:Nat):Int)==0)=G from by rw[cc];omega];show(bif !(ko (bV 38) m 0 (ya (fZ b S hd E.length) (((hd+E.length)%(2*S):Nat):Int)) s O).2 then _ else((ko (bV 38) m 0 (ya (fZ b S hd E.length) (((hd+E.length)%(2*S):Nat):Int)) s O).1,((b:Int),(S:Int),((hd%(2*S):Nat):Int),tmod ((((hd+E.length)%(2*S):Nat):Int)+1) (2*(S:Int))),O))=_;rw[sl,p.1];simp only[ak,ab];have t:tmod ((((hd+E.length)%(2*S):Nat):Int)+1) (2*(S:Int))=(((hd+(E.length+1))%(2*S):Nat):Int):=by rw[(J:(((hd+E.length)%(2*S):Nat):Int)+1=(((hd+E.length)%(2*S)+1:Nat):Int)),(J:(2*(S:Int))=((2*S:Nat):Int)),Sd];rcases d with rfl|rfl<;>omega
  rw[t];rfl
 rw[e];have h:=p.2.2;rw[o]at h;generalize (ko (bV 38) m 0 ((b+16*((hd+E.length)%S):Nat):Int) s O).1=z at p h⊢;refine⟨rfl,p.2.1,⟨by simp;omega,λj l=>?_⟩,λi k C=>?_⟩;simp only[aq,aO]at l;rcases ca j E.length with g|g;rw[bH,bE g,<-bH,<-r.get j g];refine BQ λi k=>?_;rw[h _ (by rcases d with rfl|rfl<;>omega),aK (by rcases d with rfl|rfl<;>omega)];have l:j=E.length:=J;subst l;have u:(E++[s]).getD E.length []=s:=aD;rw[u];have:=RA (m:=z) (a:=b+16*((hd+E.length)%S)) (s:=s) λi k=>by rw[h _ (by rcases d with rfl|rfl<;>omega),zip,Nat.add_sub_cancel_left]
 rw[o]at this;exact this;rw[h i k,aK (by rcases d with rfl|rfl<;>omega)]
def phN (x:Nat):Int:=if x%8<4 then 1 else 0
def D6 (b x:Nat):J6:=((b:Int),4,((x%8:Nat):Int))
theorem abV {b x}(a:b<=130944:=by omega):iE (D6 b x)=O/\pQ (D6 b x)=((b+16*(x%4):Nat):Int)/\Io (D6 b x)=phN x/\tmod ((D6 b x).2.2+1) (2*(D6 b x).2.1)=(((x+1)%8:Nat):Int):=by refine⟨?_,?_,?_,?_⟩;unfold iE D6;simp only[af,aR];refine⟨J,eR,?_⟩;rw[HK eR];omega;show(b:Int)+tmod ((x%8:Nat):Int) ((4:Nat):Int)*16=_;rw[Sd];omega;unfold phN;show(bif decide (((x%8:Nat):Int)<4) then(1:Int) else 0)=_;by_cases h:x%8<4;rw[aI h,iG];rfl;rw[aK h,ga];rfl;show tmod (((x%8:Nat):Int)+1) (2*4)=_;rw[(J:((x%8:Nat):Int)+1=((x%8+1:Nat):Int)),show((2:Int)*4)=((8:Nat):Int) from rfl,Sd];omega
abbrev UX:=ON
variable {C:Z UX}
structure VJ (m:List Bytes) (b x:Nat) (C:List UX):Prop where
 len:C.length<=4
 get:∀j,j<C.length->ql (xZ m (b+16*((x+j)%4)) 16)=(C.getD j (0,0,0,0,0),phN (x+j),O)
 Xv:∀j,C.length<=j->j<4->(ql (xZ m (b+16*((x+j)%4)) 16)).2.1≠phN (x+j)
theorem VJ.frame {m' b x}(r:VJ m b x C)(h:∀i,b<=i->i<b+64->mB m' i=mB m i):VJ m' b x C:=by have e:∀j,xZ m' (b+16*((x+j)%4)) 16=xZ m (b+16*((x+j)%4)) 16:=λj=>BQ λi f=>h _ J J;exact⟨r.len,λj d=>by rw[e];exact r.get j d,λj a c=>by rw[e];exact r.Xv j a c⟩
theorem atU x:phN x≠phN (x+4):=by grind[phN]
theorem Td (g:fR m){b x c}(k:b+64<=4864)(r:VJ m b x (c::C)):mm (bV 38) m 0 (D6 b x)=(c,D6 b (x+1),O)/\VJ m b (x+1) C:=by have v:=abV (b:=b) (x:=x);have d:=MG g (a:=b+16*(x%4)) (r:=16);have e:=r.get 0 aD;rw[eY]at e;have n:C.length+1<=4:=r.len;refine⟨?_,⟨J,λj l=>?_,λj h i=>?_⟩⟩;unfold mm Og;rw[v.1,v.2.1,show((16:Int))=((16:Nat):Int) from rfl,d,e,v.2.2.1];simp only[bg,iI,ae];unfold aqf;rw[v.2.2.2];rfl;have:=r.get (j+1) (by simp;omega);rw[(J:x+(j+1)=x+1+j)]at this;exact this;by_cases f:j=3;subst f;rw[(J:(x+1+3)%4=x%4),e,(J:x+1+3=x+4)];exact atU x;have:=r.Xv (j+1) (by simp;omega) J;rw[(J:x+(j+1)=x+1+j)]at this;exact this
theorem Te (e:fR m){b x}(f:b+64<=4864)(r:VJ m b x []):mm (bV 38) m 0 (D6 b x)=((0,0,0,0,0),D6 b x,G):=by have v:=abV (b:=b) (x:=x);have d:=MG e (a:=b+16*(x%4)) (r:=16);have c:=r.Xv 0 aD J;rw[eY]at c;unfold mm Og;rw[v.1,v.2.1,show((16:Int))=((16:Nat):Int) from rfl,d,v.2.2.1,show((ql (xZ m (b+16*(x%4)) 16)).2.1==phN x)=G from by rw[cc];exact c];simp only[ij,ab]
theorem pU {d}(h:ot d=O):(iM d).length=16/\dV (iM d)=(d,O):=by
 have b:=h;unfold ot at b;simp only[af,aR]at b;obtain⟨o,f,l,a,s,c⟩:=d;simp only at b;obtain⟨M,N,P,Q,R,S⟩:=b;obtain⟨o,rfl⟩:=ar M.1;obtain⟨f,rfl⟩:=ar N.1;obtain⟨l,rfl⟩:=ar P.1;obtain⟨s,rfl⟩:=ar Q.1;obtain⟨c,rfl⟩:=ar R.1;obtain⟨a,rfl⟩:=ar S.1;obtain⟨p,q,el,E,F⟩:=Cl (v:=l) J;obtain⟨r,t,H,K,L⟩:=Cl (v:=s) J;obtain⟨c1,n,B,C,D⟩:=Cl (v:=c) J;obtain⟨i,j,k,m,w,x,y,z,A⟩:=KU (v:=a);obtain⟨z1,z2,z3,u,g,_⟩:=KU (v:=0);have g:cx 0=[z1,z2,z3,u]:=g;have e:iM ((o:Int),(f:Int),(l:Int),(a:Int),(s:Int),(c:Int))=[UInt8.ofNat o,UInt8.ofNat f,p,q,i,j,k,m,r,t,c1,n,z1,z2,z3,u]:=by unfold iM;rw[h,ae];simp only[el,H,B,w,g];rw[IU,IU,(J:(o:Int)%256=(o:Int)),(J:(f:Int)%256=(f:Int))];rfl
 have T:K4 (iM ((o:Int),(f:Int),(l:Int),(a:Int),(s:Int),(c:Int)))=((o:Int),(f:Int),(l:Int),(a:Int),(s:Int),(c:Int)):=by rw[e];show(((UInt8.ofNat o).toNat:Int),((UInt8.ofNat f).toNat:Int),((p.toNat*256+q.toNat:Nat):Int),(((i.toNat*256+j.toNat)*65536+(k.toNat*256+m.toNat):Nat):Int),((r.toNat*256+t.toNat:Nat):Int),((c1.toNat*256+n.toNat:Nat):Int))=_;simp_all;omega
 grind[dV,iM]
theorem aoY {x:UX}(h:Aa x=O)(Z:p<=1):(UZ x (p:Int)).length=16/\ql (UZ x (p:Int))=(x,(p:Int),O):=by
 have a:=h;unfold Aa at a;simp only[af,aR]at a;obtain⟨c,l,s,n,k⟩:=x;simp only at a;obtain⟨T,U,V,X,Y⟩:=a;obtain⟨c,rfl⟩:=ar T.1;obtain⟨l,rfl⟩:=ar U.1;obtain⟨s,rfl⟩:=ar V.1;obtain⟨n,rfl⟩:=ar X.1;obtain⟨k,rfl⟩:=ar Y.1;obtain⟨c1,j,ec,z,A⟩:=Cl (v:=c) J;obtain⟨o,r,el,F,H⟩:=Cl (v:=l) J;obtain⟨w,y,es,R,S⟩:=Cl (v:=s) J;obtain⟨t,u,en,K,L⟩:=Cl (v:=n) J;obtain⟨k1,k2,k3,k4,ek,B,C,D,E⟩:=KU (v:=k);obtain⟨b,d,f,i,ep,M,N,P,Q⟩:=KU (v:=p);have e:UZ ((c:Int),(l:Int),(s:Int),(n:Int),(k:Int)) (p:Int)=[c1,j,o,r,w,y,t,u,k1,k2,k3,k4,b,d,f,i]:=by grind[UZ,aR]
 have g:∀q:Nat,q<=1->b.toNat=0->d.toNat=0->f.toNat=0->i.toNat=q->eK [c1,j,o,r,w,y,t,u,k1,k2,k3,k4,b,d,f,i] 12=(q:Int):=by intro q _ g1 g2 g3 g4;show(((b.toNat*256+d.toNat)*65536+(f.toNat*256+i.toNat):Nat):Int)=_;omega
 have m:=g p Z J J J J;refine⟨by rw[e];rfl,?_⟩;unfold ql;rw[e,m,ga];show(bif (((16:Nat):Int) !=16)||false then _ else((((c1.toNat*256+j.toNat:Nat):Int),((o.toNat*256+r.toNat:Nat):Int),((w.toNat*256+y.toNat:Nat):Int),((t.toNat*256+u.toNat:Nat):Int),(((k1.toNat*256+k2.toNat)*65536+(k3.toNat*256+k4.toNat):Nat):Int)),(p:Int),O))=_;grind[Prod.mk.injEq]
theorem atT x:∃p:Nat,p<=1/\phN x=(p:Int):=by unfold phN;split;exact⟨1,J,rfl⟩;exact⟨0,J,rfl⟩
theorem aaU (u:fR m){b x}(B:1280<=b/\b+64<=4864)(r:VJ m b x C)(D:C.length<4){c:UX}(l:Aa c=O): (vF (bV 38) m 0 (D6 b (x+C.length)) c).2=(D6 b (x+C.length+1),O)/\fR (vF (bV 38) m 0 (D6 b (x+C.length)) c).1/\VJ (vF (bV 38) m 0 (D6 b (x+C.length)) c).1 b x (C++[c])/\∀i,i<4864->(i<b\/b+64<=i)->mB (vF (bV 38) m 0 (D6 b (x+C.length)) c).1 i=mB m i:=by
 have v:=abV (b:=b) (x:=x+C.length);obtain⟨p,z,o⟩:=atT (x+C.length);have d:=aoY l z;rw[<-o]at d;generalize A:UZ c (phN (x+C.length))=s at d;have q:=Ir u (a:=b+16*((x+C.length)%4)) (s:=s) (w:=true) J J (λ_=>J);have e:vF (bV 38) m 0 (D6 b (x+C.length)) c=((ko (bV 38) m 0 ((b+16*((x+C.length)%4):Nat):Int) s O).1,D6 b (x+C.length+1),O):=by unfold vF;rw[v.1,l,v.2.2.1,A,v.2.1,q.1,v.2.2.2];rfl
 rw[e];have q3:=q.2.2;rw[d.1]at q3;generalize (ko (bV 38) m 0 ((b+16*((x+C.length)%4):Nat):Int) s O).1=h at q q3⊢;have row:xZ h (b+16*((x+C.length)%4)) 16=s:=by
  have:=RA (m:=h) (a:=b+16*((x+C.length)%4)) (s:=s) λi f=>by rw[q3 _ J,zip,Nat.add_sub_cancel_left]
  rw[d.1]at this;exact this
 have apart:∀j,j<4->j≠C.length->xZ h (b+16*((x+j)%4)) 16=xZ m (b+16*((x+j)%4)) 16:=λj n y=>BQ λi f=>by rw[q3 _ J,nQ]
 refine⟨rfl,q.2.1,⟨by simp;omega,λj n=>?_,λj t k=>?_⟩,λi f E=>?_⟩;simp only[aq,aO]at n;by_cases g:j=C.length;subst g;rw[row,d.2];simp;rw[apart j J g,r.get j J,bH,bH,bE J];simp only[aq,aO]at t;rw[apart j k J];exact r.Xv j J k;rw[q3 i f,nQ]
def jZ (p:gL)(n:Int):gL×dw×Bool:=bif eD p&&dF n 0 (p.2.2.2.length:Int) then((p.1,p.2.1,p.2.2.1,p.2.2.2.drop n.toNat),p.2.2.2.take n.toNat,O) else(p,[],G)
theorem an1 p n(h:p.2.2.2.length<=10^9):zJ p n=I (jZ p n):=by unfold zJ jZ;rw[Et p h,aa,AB p h,aa,cz];grind[aR,aa,FJ,aU,KR]
theorem amy p n(h:p.2.2.2.length<=10^9):yM p n=I (jZ p n):=by unfold yM jZ;rw[B7 p h,aa,CG p h,aa,cP];cases eD p;rfl;cases a:dF n 0 (p.2.2.2.length:Int);rfl;have hn:=aR.1 a;obtain⟨n,rfl⟩:=ar hn.1;simp only[ak,ab,aa,bR,ae,au];grind[aa,qj,sub]
theorem FO:∀l:Z xw,(∀x∈l,0<=x.2.1/\x.2.1<=16)->0<=eI l/\eI l<=16*(l.length:Int)
 |[],_=>by simp[eI]
 |y::l,h=>by have b:=FO l (λx a=>h x (cy _ a));grind[eI]
theorem Wb (l:Z xw)i a:eI (l.take (i+1))=eI (l.take i)+l[i].2.1:=by grind[aM,eI]
theorem anW t(h:t.2.2.1.length<=1000000)(b:∀x∈t.2.2.1,0<=x.2.1/\x.2.1<=16):FG t=I (eI t.2.2.1):=by
 have c:=dB;unfold FG;refine bJ (λi=>(eI (t.2.2.1.take i),(i:Int))) t.2.2.1.length J (λi e a=>?_) (λe=>?_);have f:=FO (t.2.2.1.take i) (λx d=>b x (List.mem_of_mem_take d));have g:=b _ (az a);have j:(t.2.2.1.take i).length<=1000000:=by rw[bp];omega
 rw[Wb _ _ a];simp only[zP];rw[iG,ae,aP a,aa,aj (n:=(i:Int)+1) J J,aj J J];rfl;simp only[zP];rw[ga,ab,bB]
theorem ams t(h:t.2.2.1.length<=1000000)(b:∀x∈t.2.2.1,0<=x.2.1/\x.2.1<=16):wY t=I (eI t.2.2.1):=by
 have c:=dB;unfold wY;refine bJ (λi=>(eI (t.2.2.1.take i),(i:Int))) t.2.2.1.length J (λi e a=>?_) (λe=>?_);have f:=FO (t.2.2.1.take i) (λx d=>b x (List.mem_of_mem_take d));have g:=b _ (az a);have j:(t.2.2.1.take i).length<=1000000:=by rw[bp];omega
 rw[Wb _ _ a];simp only[qA];rw[iG,ae,aP a,aa,aj (n:=(i:Int)+1) J J,aj J J];rfl;simp only[qA];rw[ga,ab,bB]
def xa (l:Z cE)(d:Int):cL->cL->rn->aS (cL×rn)
 |[],m,r=>I (m,r)
 |s::q,m,r=>bif (dL l m d r s).2.2 then xa l d q (dL l m d r s).1 (dL l m d r s).2.1 else none
def aqk (m:cL)(r:rn):aS (cL×rn)->cL×rn×Bool
 |some x=>(x.1,x.2,O)
 |none=>(m,r,G)
def rR l m d r q:=aqk m r (xa l d q m r)
theorem M0 (l:Z cE)(d:Int)(M:cL)(A h:rn)(g:cL)(i:l.length<=10^9)(k:M.length<=10^9):∀(b a:cL)(m:cL)(r:rn)(f:Nat),b.length<f->(a++b).length<=10^9->m.length<=10^9->
 aQ (oV (λ_ u v=>I (u,v,O)) (λw _ c e _ _=>I (c,e,w)) l d G (a++b) ((a++b).length:Int) M A g h) f ((a.length:Int),m,r)=I (aqk M A (xa l d b m r))
 |b,a,m,r,0,hf,_,_=>J
 |[],a,m,r,f+1,_,_,_=>by rw[aQ];simp only[oV];rw[aw aD,ab];rfl
 |s::q,a,m,r,f+1,hf,hn,j=>by simp only[bj,aq]at hf hn;have p:a.length<(a++s::q).length:=aD;have o:(a++s::q)[a.length]=s:=aD;rw[aQ];simp only[oV];rw[ax (by simp;omega),aP p,o];simp only[ae,aa,Ue l m d r _ i j];rw[xa];cases x:(dL l m d r s).2.2 with|false=>simp only[bS,ae,ab,jk M,aa];rfl|true=>simp only[ak,ab,ae];rw[aj (n:=(a.length:Int)+1) J J];have t:=M0 l d M A h g i k q (a++[s]) (dL l m d r s).1 (dL l m d r s).2.1 f J (by simp;omega) (by rw[Dr];exact j);grind
theorem Nv (l:Z cE)(d:Int)(M:cL)(A h:rn)(g:cL)(i:l.length<=10^9)(k:M.length<=10^9):∀(b a:cL)(m:cL)(r:rn)(f:Nat),b.length<f->(a++b).length<=10^9->m.length<=10^9->
 aQ (pq (λ_ u v=>I (u,v,O)) (λw _ c e _ _=>I (c,e,w)) l d (a++b) G M A g h) f ((a.length:Int),m,r)=I (aqk M A (xa l d b m r))
 |b,a,m,r,0,hf,_,_=>J
 |[],a,m,r,f+1,_,_,_=>by rw[aQ];simp only[pq];rw[aw aD,ab];rfl
 |s::q,a,m,r,f+1,hf,hn,j=>by simp only[bj,aq]at hf hn;have p:a.length<(a++s::q).length:=aD;have o:(a++s::q)[a.length]=s:=aD;rw[aQ];simp only[pq];rw[ax (by simp;omega),aP p,o];simp only[ae,aa,UH l m d r _ i j];rw[xa];cases x:(dL l m d r s).2.2 with|false=>simp only[bS,ae,ab,kG M,aa];rfl|true=>simp only[ak,ab,ae];rw[aj (n:=(a.length:Int)+1) J J];have t:=Nv l d M A h g i k q (a++[s]) (dL l m d r s).1 (dL l m d r s).2.1 f J (by simp;omega) (by rw[Dr];exact j);grind
theorem ah9 l m d(r:rn)q(c:l.length<=10^9)(a:m.length<=10^9)(e:q.length<=10^9):nn l m d r q=I (rR l m d r q):=by have b:=dB;unfold nn rR;rw[jk m,aa];exact M0 l d m r _ _ c a q [] m r fuel J (by simpa using e) a
theorem aju l m d(r:rn)q(c:l.length<=10^9)(a:m.length<=10^9)(e:q.length<=10^9):Bm l m d r q=I (rR l m d r q):=by have b:=dB;unfold Bm rR;rw[kG m,aa];exact Nv l d m r _ _ c a q [] m r fuel J (by simpa using e) a
def F3 (x:Int×Int):=decide (x.1<0)|| !dF x.2 0 4096
def oa (l:Z (Int×Int)):= !l.any F3&&decide ((l.length:Int)<=16)
theorem XE l:(bif l.any F3 then I G else I (ay ((l.length:Int)<=16)))=I (oa l):=by grind[oa]
theorem W5 (l:Z (Int×Int))(h:l.length<=10^9):E8 l=I (oa l):=by
 rw[<-XE];refine Mz F3 l J (λi a b=>?_) (λb=>?_);simp only[yD];rw[iG,ae,aP a,aa,cP,aj J J];unfold F3;cases decide (l[i].1<0)with|true=>rfl|false=>rfl
 simp only[yD];rw[ga,ab]
theorem Yc (l:Z (Int×Int))(h:l.length<=10^9):FA l=I (oa l):=by
 rw[<-XE];refine Mz F3 l J (λi a b=>?_) (λb=>?_);simp only[zB];rw[iG,ae,aP a,aa,aa,cz,aj J J];unfold F3;cases decide (l[i].1<0)with|true=>rfl|false=>rfl
 simp only[zB];rw[ga,ab]
theorem KC {l}(h:oa l=O):l.length<=16/\∀x∈l,0<=x.1/\0<=x.2/\x.2<=4096:=by grind[oa,F3,aR]
def dsc (n:Nat)(c:Int)(i:Nat)(x:Int×Int):KW:=(1,(if i+1=n then 1 else 0),x.2,x.1,0,c)
def kV (a:Z (Int×Int))(c:Int):Nat->Z KW
 |0=>[]
 |i+1=>kV a c i++[dsc a.length c i (a.getD i (0,0))]
theorem HD (a:Z (Int×Int))(c:Int):∀i,(kV a c i).length=i
 |0=>rfl
 |i+1=>by rw[kV,aq,HD a c i];rfl
theorem NX (a:Z (Int×Int))(c:Int)(q:KW->Bool):∀i,(kV a c i).all q=(range i).all (λj=>q (dsc a.length c j (a.getD j (0,0))))
 |0=>rfl
 |i+1=>by rw[kV,List.all_append,NX a c q i,ja,List.all_append];rfl
def iu a z c:=
 bif ((a.length:Int)==0)||(!oa a|| !dF z 1 128) then [] else
 bif ([(2,0,0,0,z,c)]++kV a c a.length).all ot then [(2,0,0,0,z,c)]++kV a c a.length else []
theorem Lf (a:Z (Int×Int))z c(h:a.length<=10^9:=by omega):∃b,lD a z c=I (b,iu a z c)/\(b=G->iu a z c=[]):=by
 unfold lD iu;rw[W5 a h,cP];cases ((a.length:Int)==0);case true=>exact⟨G,rfl,λ_=>rfl⟩
 cases oa a;exact⟨G,rfl,λ_=>rfl⟩;cases dF z 1 128;exact⟨G,rfl,λ_=>rfl⟩;refine⟨([(2,0,0,0,z,c)]++kV a c a.length).all ot,?_,λj=>by rw[j];rfl⟩;refine bJ (λi=>(([(2,0,0,0,z,c)]++kV a c i,(i:Int)))) a.length J (λi f d=>?_) (λf=>?_);have k:=HD a c i;simp only[nW];rw[iG,ae,aP d,aa,aj J J,aj J J];have e:[(2,0,0,0,z,c)]++kV a c (i+1)=([(2,0,0,0,z,c)]++kV a c i)++[dsc a.length c i a[i]]:=by rw[kV,cU d,aH]
 rw[e];unfold dsc;by_cases g:i+1=a.length;rw[show((i:Int)==(a.length)-1)=O from by rw[bw];omega,aI g];rw[aU (by simp only[aq,aO];omega)];rfl;rw[show((i:Int)==(a.length)-1)=G from by rw[cc];omega,aK g];simp only[ab];rw[aU (by simp only[aq,aO];omega)];rfl;simp only[nW];rw[ga,ab];have k:=HD a c a.length;generalize l:[(2,0,0,0,z,c)]++kV a c a.length=q;have hn:q.length<=1000000001:=by rw[<-l];simp only[aq,aO];omega
 rw[yp (fin:=some (O,q)) ot q J (λi d f=>?_) (λf=>?_)];cases q.all ot<;>rfl;simp only[mY];rw[iG,ae,aP d,aa,aeR,aa,aj J J];rfl;simp only[mY];rw[ga,ab]
theorem RQ (a:Z (Int×Int))z c(h:a.length<=10^9):nL a z c=I (iu a z c):=by
 unfold nL iu;rw[Yc a h,cz];cases ((a.length:Int)==0);case true=>rfl
 cases oa a;rfl;cases dF z 1 128;rfl;have i0:idx [((2,0,0,0,z,c):KW)] 0=I (2,0,0,0,z,c):=rfl;simp only[ak,ab,aa,bL,i0,RP,List.all_append,cC,List.all_nil,gB];cases ot (2,0,0,0,z,c);rfl;rw[NX];refine(NT (fin:=some ([(2,0,0,0,z,c)]++kV a c a.length)) (hit:=some []) (λi=>(([(2,0,0,0,z,c)]++kV a c i,(i:Int)))) (λj=>ot (dsc a.length c j (a.getD j (0,0)))) a.length J (λi f b _=>?_) (λ_ f=>?_)).trans ?_;have g:=HD a c i;simp only[og];rw[iG,ae,aP b,aa,aa,aj J J,aj J J];have e:[(2,0,0,0,z,c)]++kV a c (i+1)=([(2,0,0,0,z,c)]++kV a c i)++[dsc a.length c i a[i]]:=by rw[kV,cU b,aH]
 rw[e,cU b];unfold dsc;by_cases d:i+1=a.length;rw[show((i:Int)==(a.length)-1)=O from by rw[bw];omega,aI d];simp only[ae,RP,aa];rw[aU (by simp only[aq,aO];omega)];rfl;rw[show((i:Int)==(a.length)-1)=G from by rw[cc];omega,aK d];simp only[ab,RP,aa];rw[aU (by simp only[aq,aO];omega)];rfl;simp only[og];rw[ga,ab];cases (range a.length).all (λj=>ot (dsc a.length c j (a.getD j (0,0))))<;>rfl
def KJ (x y:KW):=(x.1==y.1)&&((x.2.1==y.2.1)&&((x.2.2.1==y.2.2.1)&&((x.2.2.2.1==y.2.2.2.1)&&((x.2.2.2.2.1==y.2.2.2.2.1)&&((x.2.2.2.2.2==y.2.2.2.2.2)&&O)))))
def Gn (a b:Z KW):=((a.length:Int)==(b.length:Int))&&(range a.length).all λi=>KJ (a.getD i Mb) (b.getD i Mb)
theorem anT (a b:Z KW)(g:a.length<=10^9):Hu a b=I (Gn a b):=by
 unfold Hu Gn;cases d:((a.length:Int)==(b.length))with
 |false=>simp only[bne,d,bS,ae,iR]
 |true=>
  have hn:a.length=b.length:=by have:=cw d;omega
  simp only[bne,d,ak,ab,bg];rw[iK (λi=>KJ (a.getD i Mb) (b.getD i Mb)) a.length J (λi f e=>?_) (λf=>?_)];cases (range a.length).all (λi=>KJ (a.getD i Mb) (b.getD i Mb))<;>rfl;have c:i<b.length:=J;simp only[Bv];rw[iG,ae,aP e,aP c,aa,aa,aj J J,cU e,cU c];rfl;simp only[Bv];rw[ga,ab]
def iW (l:Z KW):=(l.drop 1).map λx=>(x.2.2.2.1,x.2.2.1)
def lF (l:Z KW):=
 match l with
 |h::x::r=>bif Gn (iu (iW l) h.2.2.2.2.1 h.2.2.2.2.2) l then(iW l,h.2.2.2.2.1,h.2.2.2.2.2,O) else([],0,0,G)
 |_=>([],0,0,G)
theorem ZO a z c:(iu a z c).length<=a.length+1:=by
 unfold iu;cases ((a.length:Int)==0)||(!oa a|| !dF z 1 128);case true=>simp
 cases ([(2,0,0,0,z,c)]++kV a c a.length).all ot with|false=>simp|true=>simp only[ab,ae,aq,aO,HD];omega
theorem ada (l:Z KW)(b:l.length<=10^9):uU l=I (lF l):=by
 unfold uU;match l,b with
 |[],_=>
  obtain⟨g,f⟩:∃g,fuel=g+1:=⟨fuel-1,by have:=dB;omega⟩
  rw[f,aQ];rfl
 |h::q,b=>
  simp only[bj]at b;refine bJ (λi=>(((q.take i).map (λx=>(x.2.2.2.1,x.2.2.1)),((i+1:Nat):Int)))) q.length J (λi m j=>?_) (λm=>?_);have a:i+1<(h::q).length:=by simp;omega
  have d:(h::q)[i+1]=q[i]:=rfl;simp only[pJ];rw[iG,ae,aP a,aa,aa,aU (by simp only[bt,bp,aO];omega),aj J J,d,aM j,df];rfl;have i0:idx (h::q) 0=I h:=rfl;simp only[pJ];rw[aw (by simp only[bj];omega),ab,bB];have c:q.map (λx=>(x.2.2.2.1,x.2.2.1))=iW (h::q):=rfl;have k:(iW (h::q)).length=q.length:=by rw[<-c,bt]
  rw[c];have e:=ZO (iW (h::q)) h.2.2.2.2.1 h.2.2.2.2.2;simp only[i0,aa,RQ (iW (h::q)) _ _ (J:(iW (h::q)).length<=10^9),anT _ (h::q) (J:(iu (iW (h::q)) h.2.2.2.2.1 h.2.2.2.2.2).length<=10^9)];cases q with|nil=>rfl|cons x r=>simp only[ab,aa,lF];cases Gn (iu (iW (h::x::r)) h.2.2.2.2.1 h.2.2.2.2.2) (h::x::r)<;>rfl
theorem acv (l:Z KW)(c:l.length<=10^9):uw l=I (lF l):=by
 unfold uw;match l,c with
 |[],_=>rfl
 |[h],_=>rfl
 |h::y::r,c=>
  generalize j:y::r=q;have B:1<=q.length:=by rw[<-j];simp
  have t:q.length+1<=10^9:=by rw[<-j];simpa using c
  have i0:idx (h::q) 0=I h:=rfl;have C:sub (h::q) 1 (((h::q).length))=I q:=zV 1 aD rfl;rw[aw (by simp only[bj];omega),ab,C,aa];refine bJ (λi=>(((q.take i).map (λx=>(x.2.2.2.1,x.2.2.1)),(i:Int)))) q.length J (λi k d=>?_) (λk=>?_);simp only[pC];rw[iG,ae,aP d,aa,aU (by simp only[bt,bp,aO];omega),aj J J,aM d,df];rfl;simp only[pC];rw[ga,ab,bB];have u:q.map (λx=>(x.2.2.2.1,x.2.2.1))=iW (h::q):=rfl;have A:(iW (h::q)).length=q.length:=by rw[<-u,bt]
  rw[u];have g:=ZO (iW (h::q)) h.2.2.2.2.1 h.2.2.2.2.2;obtain⟨b,hd,s⟩:=Lf (iW (h::q)) h.2.2.2.2.1 h.2.2.2.2.2;have v:lF (h::q)=bif Gn (iu (iW (h::q)) h.2.2.2.2.1 h.2.2.2.2.2) (h::q) then(iW (h::q),h.2.2.2.2.1,h.2.2.2.2.2,O) else([],0,0,G):=by rw[<-j];rfl
  rw[v];simp only[i0,aa,hd];have z:(((h::q).length):Int)=(q.length)+1:=by simp only[bj];omega
  generalize iu (iW (h::q)) h.2.2.2.2.1 h.2.2.2.2.2=w at g s⊢
  have core:∀(K:aS (Z (Int×Int)×Int×Int×Bool))(a:Z KW),a=w->(bif ((a.length):Int) !=(((h::q).length)) then I (([]),(0),(0),G) else
   aQ (jT (λD=>I (iW (h::q),h.2.2.2.2.1,h.2.2.2.2.2,O)) (λm n o p E=>I (m,n,o,p)) (h::q) (iW (h::q)) h.2.2.2.2.1 h.2.2.2.2.2 a ((a.length))) fuel 0)=I (bif Gn w (h::q) then(iW (h::q),h.2.2.2.2.1,h.2.2.2.2.2,O) else([],0,0,G)):=by
   intro K a e
   subst e
   unfold Gn
   cases c:((a.length)==(((h::q).length):Int))with
   |false=>simp only[bne,c,bS,ae,iR,ab]
   |true=>
    simp only[bne,c,ak,ab,bg]
    rw[iK (fin:=some (iW (h::q),h.2.2.2.2.1,h.2.2.2.2.2,O)) (λi=>KJ (a.getD i Mb) ((h::q).getD i Mb)) a.length J (λi k d=>?_) (λk=>?_)]
    ·cases (range a.length).all (λi=>KJ (a.getD i Mb) ((h::q).getD i Mb))<;>rfl
    ·have f:i<(h::q).length:=J
     simp only[jT]
     rw[iG,ae,aP d,aP f,aa,aa,aj J J,cU d,cU f];rfl
    ·simp only[jT]
     rw[ga,ab]
  cases b with|true=>exact core none w rfl|false=>exact core none [] (s rfl).symm
theorem Uq {l}(h:(lF l).2.2.2=O):oa (lF l).1=O/\∀p∈(lF l).1,p.1<=4294967295:=by match l,h with|hd::x::r,h=>unfold lF at h⊢;simp only at h⊢;cases a:Gn (iu (iW (hd::x::r)) hd.2.2.2.2.1 hd.2.2.2.2.2) (hd::x::r)with|false=>grind|true=>generalize j:iW (hd::x::r)=b at a⊢;unfold Gn at a;simp only[af]at a;have e:=cw a.1;unfold iu at e;cases c:((b.length)==0)||(!oa b|| !dF hd.2.2.2.2.1 1 128)with|true=>grind|false=>cases d:([(2,0,0,0,hd.2.2.2.2.1,hd.2.2.2.2.2)]++kV b hd.2.2.2.2.2 b.length).all ot with|false=>grind|true=>simp only[dj,eH]at c;refine⟨c.2.1,λp f=>?_⟩;rw[List.all_append,NX,af]at d;obtain⟨i,g,rfl⟩:=fP f;simp_all[ot,dsc,aR]
theorem Kc l m d a n:(sA l m d a n).1.length<=33554432:=by grind[Ol,xX,sA]
def GQ (l:Z cE)(m:cL)(d:Int):Z (Int×Int)->Bytes->Bytes×Bool
 |[],a=>(a,O)
 |p::b,a=>bif (sA l m d p.1 p.2).2 then GQ l m d b (a++(sA l m d p.1 p.2).1) else([],G)
def AP l m d a:=bif oa a then GQ l m d a [] else([],G)
def I9 (l:Z cE)(m:cL)(d:Int)(p:Int×Int)(s:Bytes):Except (aS (Bytes×Bool)) Bytes:=
 if(sA l m d p.1 p.2).2=O then .ok (s++(sA l m d p.1 p.2).1) else .error (I ([],G))
theorem PO (l:Z cE)(m:cL)(d:Int):∀(a:Z (Int×Int))(s:Bytes),LA (I9 l m d) (λs=>I (s,O)) a s=I (GQ l m d a s)
 |[],s=>rfl
 |p::a,s=>by rw[LA,GQ];unfold I9;cases hd:(sA l m d p.1 p.2).2 with|false=>rfl|true=>exact PO l m d a _
theorem T5 (l:Z cE)(m:cL)(d:Int):∀(a:Z (Int×Int))(s:Bytes),(GQ l m d a s).1.length<=s.length+33554432*a.length
 |[],s=>by simp[GQ]
 |p::a,s=>by have b:=Kc l m d p.1 p.2;rw[GQ];cases (sA l m d p.1 p.2).2 with|false=>simp|true=>have:=T5 l m d a (s++(sA l m d p.1 p.2).1);grind
theorem T6 l m d a:(AP l m d a).1.length<=10^9:=by unfold AP;cases b:oa a with|false=>simp|true=>have:=(KC b).1;have:=T5 l m d a [];grind
theorem ah4 l m d(a:Z (Int×Int))(j:l.length<=10^9)(k:m.length<=10^9)(n:a.length<=10^9)(h:∀p∈a,p.1<=9223372036854775807):wJ l m d a=I (AP l m d a):=by
 unfold wJ AP;rw[W5 a n,aa];cases o:oa a;rfl;have g:=(KC o).1;simp only[ak,ab,ae];rw[<-PO];refine vG a (λs i=>(s,(i:Int))) (λi s=>s.length<=33554432*i) (I9 l m d) _ J (λi c s q e=>?_) (λi c s r e b=>?_) (λs q e=>?_) [] aD;have f:=Kc l m d a[i].1 a[i].2;simp only[qt];rw[iG,ae,aP c,aa,Jd l m d _ _ j k (h _ (az c)),aa];unfold I9;cases hd:(sA l m d a[i].1 a[i].2).2 with|false=>rfl|true=>rw[aI rfl,aU J,aj J J];rfl
 have f:=Kc l m d a[i].1 a[i].2;unfold I9 at b;split at b;injection b with b;rw[<-b,aq];omega;cases b;simp only[qt];rw[ga,ab]
theorem ajp l m d(a:Z (Int×Int))(j:l.length<=10^9)(k:m.length<=10^9)(n:a.length<=10^9)(h:∀p∈a,p.1<=9223372036854775807):xf l m d a=I (AP l m d a):=by
 unfold xf AP;rw[Yc a n,aa];cases o:oa a;rfl;have g:=(KC o).1;simp only[ak,ab,ae];rw[<-PO];refine vG a (λs i=>(s,(i:Int))) (λi s=>s.length<=33554432*i) (I9 l m d) _ J (λi c s q e=>?_) (λi c s r e b=>?_) (λs q e=>?_) [] aD;have f:=Kc l m d a[i].1 a[i].2;simp only[qK];rw[iG,ae,aP c,aa,aa,Ju l m d _ _ j k (h _ (az c)),aa];unfold I9;cases hd:(sA l m d a[i].1 a[i].2).2 with|false=>rfl|true=>rw[aI rfl,aU J,aj J J];rfl
 have f:=Kc l m d a[i].1 a[i].2;unfold I9 at b;split at b;injection b with b;rw[<-b,aq];omega;cases b;simp only[qK];rw[ga,ab]
theorem Py (l:Z cE)(m:cL)(d:Int):∀(n:Nat)(a:Z KW)(r:rn),(qU l m d n a r).1.length<=a.length+n
 |0,a,r=>bq _
 |n+1,a,r=>by
  rw[qU];cases !(bU l m d r).2.2|| !(dV (bU l m d r).1).2;case true=>exact cg _
  cases GN (dV (bU l m d r).1).1 with|true=>grind|false=>have:=Py l m d n (a++[(dV (bU l m d r).1).1]) (bU l m d r).2.1;grind
theorem ajb (h:eQ r=O):eQ (r.1,r.2.1,r.2.2.2,r.2.2.2)=O/\cQ (r.1,r.2.1,r.2.2.2,r.2.2.2)=0:=by grind[eQ,cQ,Int.zero_emod,aR]
theorem TQ (l:Z cE)(m:cL)(d:Int):∀(n:Nat)(a:Z KW)(r:rn),eQ r=O->(cQ r).toNat=n->
 eQ (qU l m d n a r).2.1=O/\cQ (qU l m d n a r).2.1<=cQ r/\(0<cQ r->cQ (qU l m d n a r).2.1<cQ r)
 |0,a,r,b,f=>⟨b,gH _,λh=>J⟩
 |n+1,a,r,b,f=>by have c:=IM (l:=l) (m:=m) (d:=d) (r:=r);have g:=ajb b;rw[qU];cases e: !(bU l m d r).2.2|| !(dV (bU l m d r).1).2 with|true=>grind|false=>simp only[dj,eH]at e;have c:=c e.1;cases GN (dV (bU l m d r).1).1 with|true=>grind|false=>have:=TQ l m d n (a++[(dV (bU l m d r).1).1]) (bU l m d r).2.1 c.1 J;grind
def iD (l:Z cE)(m:cL)(d:Int)(r:rn):rn×cL×Int:=
 bif !eQ r||(cQ r==0) then(r,[],0) else
 bif !(fy l m d r).2.2|| !(lF (fy l m d r).1).2.2.2 then((fy l m d r).2.1,[],2) else
 bif !(AP l m d (lF (fy l m d r).1).1).2||(!(H0 (AP l m d (lF (fy l m d r).1).1).1).2||((xW (H0 (AP l m d (lF (fy l m d r).1).1).1).1).2 !=0)) then((fy l m d r).2.1,[],2) else
 ((fy l m d r).2.1,GI (xW (H0 (AP l m d (lF (fy l m d r).1).1).1).1).1 (lF (fy l m d r).1).2.1,1)
theorem ah8 l m d(r:rn)(e:l.length<=10^9)(f:m.length<=10^9):wT l m d r=I (iD l m d r):=by
 unfold wT iD;simp only[FR,Ia,aa,Y4 l m d r e f];cases b:eQ r;rfl;cases cQ r==0;case true=>rfl
 have h:=qF b;have a:(fy l m d r).1.length<=16:=by unfold fy;cases !eQ r||(cQ r==0)with|true=>exact cg _|false=>have:=Py l m d (cQ r).toNat [] r;grind
 simp only[ak,ab,aa,bL];generalize fy l m d r=c at a⊢;cases c.2.2;rfl;simp only[ak,ab,aa,cq,acv c.1 (J:c.1.length<=10^9)];have g:=Uq (l:=c.1);grind[KC,T6,aa,ah4,ZZ,amh,Od,apS]
theorem ajt l m d(r:rn)(e:l.length<=10^9)(f:m.length<=10^9):xp l m d r=I (iD l m d r):=by
 unfold xp iD;simp only[F9,IB,aa,Zo l m d r e f];cases h:eQ r;rfl;cases cQ r==0;case true=>rfl
 have n:=qF h;have b:(fy l m d r).1.length<=16:=by unfold fy;cases !eQ r||(cQ r==0)with|true=>exact cg _|false=>have:=Py l m d (cQ r).toNat [] r;grind
 simp only[ak,ab,aa,bL];generalize fy l m d r=c at b⊢;simp only[ada c.1 (J:c.1.length<=10^9),aa];cases c.2.2;rfl;simp only[ak,ab,aa,cq];have a:=Uq (l:=c.1);generalize lF c.1=p at a⊢;cases i:p.2.2.2;rfl;have a:=a i;have g:=(KC a.1).1;have k:=T6 l m d p.1;simp only[ak,ab,aa,cq,ajp l m d p.1 e f (J:p.1.length<=10^9) (λq j=>Int.le_trans (a.2 q j) J)];grind[ZZ,anP,aa,Ox,agt]
theorem Tc l m d r: ((iD l m d r).2.2=0->(iD l m d r).1=r)/\((iD l m d r).2.2≠0->0<cQ r/\eQ r=O/\eQ (iD l m d r).1=O/\cQ (iD l m d r).1<cQ r)/\(iD l m d r).2.1.length<=320/\(∀x∈(iD l m d r).2.1,x.length<=382)/\((iD l m d r).2.2=0\/(iD l m d r).2.2=1\/(iD l m d r).2.2=2):=by
 unfold iD;cases a: !eQ r||(cQ r==0)with
 |true=>grind
 |false=>
  simp only[dj,eH,cc]at a;have c:=qF a.1;have b:eQ (fy l m d r).2.1=O/\cQ (fy l m d r).2.1<cQ r:=by have:=TQ l m d (cQ r).toNat [] r a.1 rfl;grind[fy]
  grind[Tw]
def lQ (l:Z cE)(m:cL)(d:Int):Nat->cL->Nat->Nat->rn->rn×cL×Int×Int
 |0,c,b,a,r=>(r,c,(b:Int),(a:Int))
 |n+1,c,b,a,r=>
  bif (iD l m d r).2.2==0 then(r,c,(b:Int),(a:Int)) else
  bif (iD l m d r).2.2==1 then lQ l m d n (c++(iD l m d r).2.1) (b+1) a (iD l m d r).1 else
  lQ l m d n (c++(iD l m d r).2.1) b (a+1) (iD l m d r).1
def mh l m d r:=lQ l m d 17 [] 0 0 r
theorem P3 (l:Z cE)(m:cL)(d:Int)(e:l.length<=10^9)(g:m.length<=10^9):∀(n:Nat)(c:cL)(b a:Nat)(r:rn)(f:Nat),n<f->(eQ r=O->cQ r<n)->0<n->c.length+320*n<=10000->b+a+n<=1000->
 aQ (rO (λp q s _ _ _ _ t=>I (t,p,q,s)) l d ([]:cL) 0 0 m (0,0,0,0)) f (c,(b:Int),(a:Int),r)=I (lQ l m d n c b a r)
 |0,c,b,a,r,f,_,_,h,_,_=>J
 |n+1,c,b,a,r,0,hf,_,_,_,_=>J
 |n+1,c,b,a,r,f+1,hf,k,_,j,u=>by have ok:=Tc l m d r;rw[aQ,lQ];simp only[rO,ah8 l m d r e g,aa];generalize iD l m d r=x at ok⊢;cases h:x.2.2==0 with|true=>grind|false=>have i:=ok.2.1 (by simpa using h);have v:=k i.2.1;have o:=(qF i.2.2.1).1;simp only[ab];cases x.2.2==1 with|true=>simp only[ae];rw[aU J,aj J J];exact P3 l m d e g n _ (b+1) a _ f J (λ_=>J) J (by rw[aq];omega) J|false=>simp only[ab];rw[aU J,aj J J];exact P3 l m d e g n _ b (a+1) _ f J (λ_=>J) J (by rw[aq];omega) J
theorem Qf (l:Z cE)(m:cL)(d:Int)(e:l.length<=10^9)(g:m.length<=10^9):∀(n:Nat)(c:cL)(b a:Nat)(r:rn)(f:Nat),n<f->(eQ r=O->cQ r<n)->0<n->c.length+320*n<=10000->b+a+n<=1000->
 aQ (se (λp q s _ _ _ _ t=>I (t,p,q,s)) l d ([]:cL) 0 0 m (0,0,0,0)) f (c,(b:Int),(a:Int),r)=I (lQ l m d n c b a r)
 |0,c,b,a,r,f,_,_,h,_,_=>J
 |n+1,c,b,a,r,0,hf,_,_,_,_=>J
 |n+1,c,b,a,r,f+1,hf,k,_,j,u=>by have ok:=Tc l m d r;rw[aQ,lQ];simp only[se,ajt l m d r e g,aa];generalize iD l m d r=x at ok⊢;cases h:x.2.2==0 with|true=>rfl|false=>have i:=ok.2.1 (by simpa using h);have v:=k i.2.1;have o:=(qF i.2.2.1).1;simp only[ab];rw[aU J];cases x.2.2==1 with|true=>simp only[ae];rw[aj J J];exact Qf l m d e g n _ (b+1) a _ f J (λ_=>J) J (by rw[aq];omega) J|false=>simp only[ab];rw[aj J J];exact Qf l m d e g n _ b (a+1) _ f J (λ_=>J) J (by rw[aq];omega) J
theorem amB l m d(r:rn)(b:l.length<=10^9)(c:m.length<=10^9):yN l m d r=I (mh l m d r):=by have a:=dB;unfold yN;exact P3 l m d b c 17 [] 0 0 r fuel J (λh=>by have:=(qF h).2;omega) J aD J
theorem an4 l m d(r:rn)(b:l.length<=10^9)(c:m.length<=10^9):zK l m d r=I (mh l m d r):=by have a:=dB;unfold zK;exact Qf l m d b c 17 [] 0 0 r fuel J (λh=>by have:=(qF h).2;omega) J aD J
theorem HO (l:Z cE)(m:cL)(d:Int):∀(n:Nat)(c:cL)(b a:Nat)(r:rn),(∀x∈c,x.length<=382)->
 (lQ l m d n c b a r).2.1.length<=c.length+320*n/\(∀x∈(lQ l m d n c b a r).2.1,x.length<=382)/\0<=(lQ l m d n c b a r).2.2.1/\(lQ l m d n c b a r).2.2.1<=(b+n:Nat)/\0<=(lQ l m d n c b a r).2.2.2/\(lQ l m d n c b a r).2.2.2<=(a+n:Nat)
 |0,c,b,a,r,h=>⟨bq _,h,by show(0:Int)<=(b:Int);omega,by show(b:Int)<=_;omega,by show(0:Int)<=(a:Int);omega,by show(a:Int)<=_;omega⟩
 |n+1,c,b,a,r,h=>by
  have ok:=Tc l m d r;rw[lQ];generalize iD l m d r=x at ok⊢;have e:∀y∈c++x.2.1,y.length<=382:=λy f=>by grind
  cases x.2.2==0 with|true=>grind|false=>cases x.2.2==1 with|true=>have i:=HO l m d n (c++x.2.1) (b+1) a x.1 e;grind|false=>have i:=HO l m d n (c++x.2.1) b (a+1) x.1 e;grind
end
end Go.Pu
